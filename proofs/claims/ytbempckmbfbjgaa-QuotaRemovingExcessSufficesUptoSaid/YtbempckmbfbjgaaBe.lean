/- The compact code of the functions, first half. No condition. -/
import Derived.Test.YtbempckmbfbjgaaBc
import Derived.Test.YtbempckmbfbjgaaChecked
import Derived.KernelRfl
set_option linter.unusedVariables false
set_option linter.unusedSimpArgs false
set_option linter.constructorNameAsVariable false
set_option linter.unnecessarySimpa false
namespace Go.Proofs.Ytbempckmbfbjgaa.Code
open Go.Ev
set_option maxRecDepth 100000

/-- posthouse/posthouselaw8.QuotaFitsIsUsed -/
def c3 : FnC := ⟨3, 63, [.tmp 6],
  .seq (.region [p (.box 3 5 (.t 0)), p (.box 4 2 (.t 1)), p (.box 5 2 (.t 2)), p (.mv 6 (.b false))] none) <|
  .seq (.seq (.region [p (.call 13 13 []), p (.un 14 .not (.t 13))] none) <|
  .cond (.t 14) (.seq (.region [p (.mv 6 (.b false))] none) <|
    .ret) <|
  .skip) <|
  .seq (.region [p (.load 16 true 5 (.t 3)), p (.bsl 17 5 1 [(.int .i64 0), (.int .i64 0), (.int .i64 0), (.sl 6 []), (.sl 2 [])] [(0, (.t 16))]), p (.load 18 true 2 (.t 4)), p (.load 19 true 2 (.t 5)), p (.call 20 14 [(.t 17), (.t 18), (.t 19)]), p (.mv 15 (.t 20)), p (.ext 21 (.t 15) 0), p (.ext 22 (.t 15) 1), p (.alloc 8 [.t (.int .i64 0), .t (.int .i64 0)]), p (.mv 7 (.t 21)), p (.store 2 (.t 8) (.t 22))] none) <|
  .seq (.region [p (.load 24 true 5 (.t 3)), p (.load 25 true 2 (.t 5)), p (.build 26 [.t (.int .i64 0), .t (.int .i64 0), .t (.int .i64 0), .t (.int .i64 0), .t (.int .i64 0), .nilsl 2, .nilsl 1] [(0, 1, (.i .i64 1)), (5, 2, (.t 25))]), p (.call 27 15 [(.t 24), (.t 26)]), p (.mv 23 (.t 27)), p (.ext 28 (.t 23) 0), p (.ext 29 (.t 23) 1), p (.alloc 9 [.t (.int .i64 0), .t (.int .i64 0), .t (.int .i64 0), .nilsl 6, .nilsl 2]), p (.alloc 10 [.t (.int .i64 0), .t (.int .i64 0)]), p (.store 5 (.t 9) (.t 28)), p (.store 2 (.t 10) (.t 29))] none) <|
  .seq (.seq (.region [p (.faddr 30 0 (.t 8)), p (.load 31 false 1 (.t 30)), p (.bin 32 .neq .int (.t 31) (.i .i64 0)), p (.mv 33 (.t 32)), q 33 false (.faddr 34 0 (.t 10)), q 33 false (.load 35 false 1 (.t 34)), q 33 false (.bin 36 .neq .int (.t 35) (.i .i64 0)), p (.pick 37 (.t 33) (.b true) (.t 36))] none) <|
  .cond (.t 37) (.seq (.region [p (.mv 6 (.b true))] none) <|
    .ret) <|
  .skip) <|
  .seq (.region [p (.load 39 true 5 (.t 9)), p (.bsl 40 5 1 [(.int .i64 0), (.int .i64 0), (.int .i64 0), (.sl 6 []), (.sl 2 [])] [(0, (.t 39))]), p (.call 41 16 [(.t 40)]), p (.mv 38 (.t 41)), p (.ext 42 (.t 38) 0), p (.ext 43 (.t 38) 1), p (.alloc 11 [.t (.int .i64 0), .t (.int .i64 0)]), p (.alloc 12 [.t (.int .i64 0), .t (.int .i64 0)]), p (.store 2 (.t 11) (.t 42)), p (.store 2 (.t 12) (.t 43))] none) <|
  .seq (.region [p (.faddr 44 0 (.t 12)), p (.load 45 false 1 (.t 44)), p (.bin 46 .eql .int (.t 45) (.i .i64 0)), p (.mv 47 (.t 46)), q 47 true (.mv 48 (.t 7)), q 47 true (.faddr 49 0 (.t 11)), q 47 true (.load 50 false 1 (.t 49)), q 47 true (.faddr 51 0 (.t 4)), q 47 true (.load 52 false 1 (.t 51)), q 47 true (.bin 53 .leq .int (.t 50) (.t 52)), q 47 true (.mv 54 (.t 53)), q 54 true (.faddr 55 1 (.t 11)), q 54 true (.load 56 false 1 (.t 55)), q 54 true (.faddr 57 1 (.t 4)), q 54 true (.load 58 false 1 (.t 57)), q 54 true (.bin 59 .leq .int (.t 56) (.t 58)), q 47 true (.pick 60 (.t 54) (.t 59) (.b false)), q 47 true (.bin 61 .eql .bool (.t 48) (.t 60)), p (.pick 62 (.t 47) (.t 61) (.b false)), p (.mv 6 (.t 62))] none) <|
  .ret⟩
theorem ok3 : compF Try.prog 3 = some c3.strip := by kernel_rfl

/-- posthouse/posthouselaw8.QuotaRemovingExcessSuffices -/
def c4l0 : AC :=
  .seq (.seq (.region [p (.mv 36 (.t 7)), p (.mv 37 (.t 5)), p (.len 38 false (.t 37)), p (.bin 39 .lss .int (.t 36) (.t 38))] none) <|
  .cond (.t 39) (.skip) <|
  .filt [2, 3] <|
  .exit 0) <|
  .seq (.block 1 <|
   .seq (.region [p (.load 43 true 5 (.t 2)), p (.mv 44 (.t 5)), p (.mv 45 (.t 7)), p (.iaddr 46 1 (.t 44) (.t 45)), p (.load 47 false 1 (.t 46)), p (.build 48 [.t (.int .i64 0), .t (.int .i64 0), .t (.int .i64 0), .t (.int .i64 0), .t (.int .i64 0), .nilsl 2, .nilsl 1] [(0, 1, (.i .i64 3)), (1, 1, (.t 47))]), p (.call 49 15 [(.t 43), (.t 48)]), p (.mv 42 (.t 49)), p (.ext 50 (.t 42) 0), p (.ext 51 (.t 42) 1), p (.alloc 8 [.t (.int .i64 0), .t (.int .i64 0), .t (.int .i64 0), .nilsl 6, .nilsl 2]), p (.alloc 9 [.t (.int .i64 0), .t (.int .i64 0)]), p (.store 5 (.t 8) (.t 50)), p (.store 2 (.t 9) (.t 51))] (some [0, 0, 0, 6, 14, 30, 63, 127, 255, 255, 0, 0, 3583, 8191])) <|
   .seq (.seq (.region [p (.faddr 52 0 (.t 9)), p (.load 53 false 1 (.t 52)), p (.bin 54 .neq .int (.t 53) (.i .i64 0))] none) <|
   .cond (.t 54) (.seq (.region [p (.mv 4 (.b false))] none) <|
     .filt [4] <|
     .ret) <|
   .skip) <|
   .region [p (.load 55 true 5 (.t 8)), p (.store 5 (.t 2) (.t 55))] none) <|
  .region [p (.mv 40 (.t 7)), p (.bin 41 .add .int (.t 40) (.i .i64 1)), p (.mv 7 (.t 41))] none
def c4 : FnC := ⟨2, 70, [.tmp 4],
  .seq (.region [p (.box 2 5 (.t 0)), p (.box 3 2 (.t 1)), p (.mv 4 (.b false))] none) <|
  .seq (.seq (.region [p (.call 12 13 []), p (.un 13 .not (.t 12))] none) <|
  .cond (.t 13) (.seq (.region [p (.mv 4 (.b false))] none) <|
    .ret) <|
  .skip) <|
  .seq (.region [p (.load 15 true 5 (.t 2)), p (.load 16 true 2 (.t 3)), p (.call 17 17 [(.t 15), (.t 16)]), p (.mv 14 (.t 17)), p (.ext 18 (.t 14) 0), p (.ext 19 (.t 14) 1), p (.alloc 6 [.t (.int .i64 0), .t (.int .i64 0)]), p (.mv 5 (.t 18)), p (.store 2 (.t 6) (.t 19))] none) <|
  .seq (.seq (.region [p (.faddr 20 0 (.t 6)), p (.load 21 false 1 (.t 20)), p (.bin 22 .neq .int (.t 21) (.i .i64 0)), p (.mv 23 (.t 22)), q 23 false (.faddr 24 1 (.t 2)), q 23 false (.load 25 false 1 (.t 24)), q 23 false (.bin 26 .gtr .int (.t 25) (.i .i64 900000)), p (.pick 27 (.t 23) (.b true) (.t 26))] none) <|
  .cond (.t 27) (.seq (.region [p (.mv 28 (.t 5)), p (.len 29 false (.t 28)), p (.bin 30 .eql .int (.t 29) (.i .i64 0)), p (.mv 31 (.t 30)), q 31 false (.faddr 32 0 (.t 6)), q 31 false (.load 33 false 1 (.t 32)), q 31 false (.bin 34 .eql .int (.t 33) (.i .i64 0)), p (.pick 35 (.t 31) (.b true) (.t 34)), p (.mv 4 (.t 35))] none) <|
    .ret) <|
  .skip) <|
  .seq (.seq (.region [p (.mv 7 (.i .i64 0))] none) <|
  .block 0 <|
   .loop (.filt [2, 3, 5, 7] c4l0)) <|
  .seq (.region [p (.load 57 true 5 (.t 2)), p (.load 58 true 2 (.t 3)), p (.call 59 17 [(.t 57), (.t 58)]), p (.mv 56 (.t 59)), p (.ext 60 (.t 56) 0), p (.ext 61 (.t 56) 1), p (.alloc 11 [.t (.int .i64 0), .t (.int .i64 0)]), p (.mv 10 (.t 60)), p (.store 2 (.t 11) (.t 61))] none) <|
  .seq (.region [p (.faddr 62 0 (.t 11)), p (.load 63 false 1 (.t 62)), p (.bin 64 .eql .int (.t 63) (.i .i64 0)), p (.mv 65 (.t 64)), q 65 true (.mv 66 (.t 10)), q 65 true (.len 67 false (.t 66)), q 65 true (.bin 68 .eql .int (.t 67) (.i .i64 0)), p (.pick 69 (.t 65) (.t 68) (.b false)), p (.mv 4 (.t 69))] none) <|
  .ret⟩
theorem ok4 : compF Try.prog 4 = some c4.strip := by kernel_rfl

/-- posthouse/posthouselaw8.QuotaSizesAreThoseOfWrite -/
def c5 : FnC := ⟨2, 73, [.tmp 4],
  .seq (.region [p (.box 2 5 (.t 0)), p (.box 3 2 (.t 1)), p (.mv 4 (.b false))] none) <|
  .seq (.seq (.region [p (.call 13 13 []), p (.un 14 .not (.t 13))] none) <|
  .cond (.t 14) (.seq (.region [p (.mv 4 (.b false))] none) <|
    .ret) <|
  .skip) <|
  .seq (.region [p (.load 16 true 2 (.t 3)), p (.call 17 18 [(.t 16)]), p (.mv 15 (.t 17)), p (.ext 18 (.t 15) 0), p (.ext 19 (.t 15) 1), p (.alloc 6 [.t (.int .i64 0), .t (.int .i64 0)]), p (.mv 5 (.t 18)), p (.store 2 (.t 6) (.t 19))] none) <|
  .seq (.region [p (.load 21 true 5 (.t 2)), p (.load 22 true 2 (.t 3)), p (.build 23 [.t (.int .i64 0), .t (.int .i64 0), .t (.int .i64 0), .t (.int .i64 0), .t (.int .i64 0), .nilsl 2, .nilsl 1] [(0, 1, (.i .i64 1)), (5, 2, (.t 22))]), p (.call 24 15 [(.t 21), (.t 23)]), p (.mv 20 (.t 24)), p (.ext 25 (.t 20) 0), p (.ext 26 (.t 20) 1), p (.alloc 7 [.t (.int .i64 0), .t (.int .i64 0), .t (.int .i64 0), .nilsl 6, .nilsl 2]), p (.alloc 8 [.t (.int .i64 0), .t (.int .i64 0)]), p (.store 5 (.t 7) (.t 25)), p (.store 2 (.t 8) (.t 26))] none) <|
  .seq (.seq (.region [p (.faddr 27 0 (.t 6)), p (.load 28 false 1 (.t 27)), p (.bin 29 .neq .int (.t 28) (.i .i64 0)), p (.mv 30 (.t 29)), q 30 false (.faddr 31 0 (.t 8)), q 30 false (.load 32 false 1 (.t 31)), q 30 false (.bin 33 .neq .int (.t 32) (.i .i64 0)), p (.pick 34 (.t 30) (.b true) (.t 33))] none) <|
  .cond (.t 34) (.seq (.region [p (.mv 4 (.b true))] none) <|
    .ret) <|
  .skip) <|
  .seq (.region [p (.load 36 true 5 (.t 2)), p (.bsl 37 5 1 [(.int .i64 0), (.int .i64 0), (.int .i64 0), (.sl 6 []), (.sl 2 [])] [(0, (.t 36))]), p (.call 38 16 [(.t 37)]), p (.mv 35 (.t 38)), p (.ext 39 (.t 35) 0), p (.ext 40 (.t 35) 1), p (.alloc 9 [.t (.int .i64 0), .t (.int .i64 0)]), p (.alloc 10 [.t (.int .i64 0), .t (.int .i64 0)]), p (.store 2 (.t 9) (.t 39)), p (.store 2 (.t 10) (.t 40))] none) <|
  .seq (.region [p (.load 42 true 5 (.t 7)), p (.bsl 43 5 1 [(.int .i64 0), (.int .i64 0), (.int .i64 0), (.sl 6 []), (.sl 2 [])] [(0, (.t 42))]), p (.call 44 16 [(.t 43)]), p (.mv 41 (.t 44)), p (.ext 45 (.t 41) 0), p (.ext 46 (.t 41) 1), p (.alloc 11 [.t (.int .i64 0), .t (.int .i64 0)]), p (.alloc 12 [.t (.int .i64 0), .t (.int .i64 0)]), p (.store 2 (.t 11) (.t 45)), p (.store 2 (.t 12) (.t 46))] none) <|
  .seq (.region [p (.faddr 47 0 (.t 10)), p (.load 48 false 1 (.t 47)), p (.bin 49 .eql .int (.t 48) (.i .i64 0)), p (.mv 50 (.t 49)), q 50 true (.faddr 51 0 (.t 12)), q 50 true (.load 52 false 1 (.t 51)), q 50 true (.bin 53 .eql .int (.t 52) (.i .i64 0)), p (.pick 54 (.t 50) (.t 53) (.b false)), p (.mv 55 (.t 54)), q 55 true (.faddr 56 0 (.t 11)), q 55 true (.load 57 false 1 (.t 56)), q 55 true (.faddr 58 0 (.t 9)), q 55 true (.load 59 false 1 (.t 58)), q 55 true (.mv 60 (.t 5)), q 55 true (.len 61 false (.t 60)), q 55 true (.bin 62 .add .int (.t 59) (.t 61)), q 55 true (.bin 63 .eql .int (.t 57) (.t 62)), p (.pick 64 (.t 55) (.t 63) (.b false)), p (.mv 65 (.t 64)), q 65 true (.faddr 66 1 (.t 11)), q 65 true (.load 67 false 1 (.t 66)), q 65 true (.faddr 68 1 (.t 9)), q 65 true (.load 69 false 1 (.t 68)), q 65 true (.bin 70 .add .int (.t 69) (.i .i64 1)), q 65 true (.bin 71 .eql .int (.t 67) (.t 70)), p (.pick 72 (.t 65) (.t 71) (.b false)), p (.mv 4 (.t 72))] none) <|
  .ret⟩
theorem ok5 : compF Try.prog 5 = some c5.strip := by kernel_rfl

/-- posthouse/posthouselaw8.ViewsMatchSpec -/
def c6l0 : AC :=
  .seq (.seq (.region [p (.mv 98 (.t 21)), p (.mv 99 (.t 2)), p (.len 100 false (.t 99)), p (.bin 101 .lss .int (.t 98) (.t 100)), p (.mv 102 (.t 101)), q 102 true (.faddr 103 0 (.t 18)), q 102 true (.load 104 false 1 (.t 103)), q 102 true (.bin 105 .eql .int (.t 104) (.i .i64 0)), p (.pick 106 (.t 102) (.t 105) (.b false))] none) <|
  .cond (.t 106) (.skip) <|
  .filt [2, 3, 4, 5, 13, 14, 18] <|
  .exit 0) <|
  .seq (.block 1 <|
   .seq (.region [p (.mv 109 (.t 2)), p (.mv 110 (.t 21)), p (.iaddr 111 2 (.t 109) (.t 110)), p (.faddr 112 0 (.t 111)), p (.load 113 false 1 (.t 112)), p (.call 114 30 [(.t 113), (.i .i64 1), (.i .i64 1000000)]), p (.un 115 .not (.t 114)), p (.mv 116 (.t 115)), q 116 false (.mv 117 (.t 2)), q 116 false (.mv 118 (.t 21)), q 116 false (.iaddr 119 2 (.t 117) (.t 118)), q 116 false (.faddr 120 1 (.t 119)), q 116 false (.load 121 false 1 (.t 120)), q 116 false (.call 122 30 [(.t 121), (.i .i64 0), (.i .i64 63)]), q 116 false (.un 123 .not (.t 122)), p (.pick 124 (.t 116) (.b true) (.t 123))] none) <|
   .cond (.t 124) (.region [p (.mv 125 (.t 21)), p (.bin 126 .add .int (.i .i64 1000) (.t 125)), p (.call 127 28 [(.i .i64 3), (.t 126)]), p (.store 2 (.t 18) (.t 127))] none) <|
   .skip) <|
  .region [p (.mv 107 (.t 21)), p (.bin 108 .add .int (.t 107) (.i .i64 1)), p (.mv 21 (.t 108))] none
def c6 : FnC := ⟨5, 160, [.tmp 10],
  .seq (.region [p (.box 5 2 (.t 0)), p (.box 6 5 (.t 1)), p (.mv 10 (.b false))] none) <|
  .seq (.region [p (.load 24 true 5 (.t 6)), p (.call 25 19 [(.t 24)]), p (.mv 23 (.t 25)), p (.ext 26 (.t 23) 0), p (.ext 27 (.t 23) 1), p (.alloc 11 [.t (.int .i64 0), .nilsl 2]), p (.alloc 12 [.t (.int .i64 0), .t (.int .i64 0)]), p (.store 2 (.t 11) (.t 26)), p (.store 2 (.t 12) (.t 27))] none) <|
  .seq (.region [p (.load 29 true 2 (.t 5)), p (.mv 30 (.t 2)), p (.mv 31 (.t 3)), p (.mv 32 (.t 4)), p (.call 33 20 [(.t 29), (.t 30), (.t 31), (.t 32)]), p (.mv 28 (.t 33)), p (.ext 34 (.t 28) 0), p (.ext 35 (.t 28) 1), p (.alloc 13 [.t (.int .i64 0), .nilsl 2]), p (.alloc 14 [.t (.int .i64 0), .t (.int .i64 0)]), p (.store 2 (.t 13) (.t 34)), p (.store 2 (.t 14) (.t 35))] none) <|
  .seq (.region [p (.load 37 true 2 (.t 5)), p (.load 38 true 5 (.t 6)), p (.call 39 21 [(.t 37), (.t 38)]), p (.mv 36 (.t 39)), p (.ext 40 (.t 36) 0), p (.ext 41 (.t 36) 1), p (.alloc 16 [.t (.int .i64 0), .t (.int .i64 0)]), p (.mv 15 (.t 40)), p (.store 2 (.t 16) (.t 41))] none) <|
  .seq (.region [p (.load 42 true 5 (.t 6)), p (.call 43 22 [(.t 42)]), p (.alloc 17 [.t (.int .i64 0), .t (.int .i64 0)]), p (.store 2 (.t 17) (.t 43))] none) <|
  .seq (.region [p (.load 44 true 2 (.t 5)), p (.call 45 23 [(.t 44)]), p (.alloc 18 [.t (.int .i64 0), .t (.int .i64 0)]), p (.store 2 (.t 18) (.t 45))] none) <|
  .seq (.seq (.region [p (.call 46 24 []), p (.un 47 .not (.t 46)), p (.mv 48 (.t 47)), q 48 false (.load 49 true 2 (.t 5)), q 48 false (.call 50 25 [(.t 49)]), q 48 false (.load 51 true 2 (.t 18)), q 48 false (.bin 52 .neq (.agg [.i, .i]) (.t 50) (.t 51)), p (.pick 53 (.t 48) (.b true) (.t 52)), p (.mv 54 (.t 53)), q 54 false (.load 55 true 2 (.t 12)), q 54 false (.load 56 true 2 (.t 17)), q 54 false (.bin 57 .neq (.agg [.i, .i]) (.t 55) (.t 56)), p (.pick 58 (.t 54) (.b true) (.t 57))] (some [0, 1, 3, 7, 15, 7, 63, 127, 255, 511, 511, 2047, 4095])) <|
  .cond (.t 58) (.seq (.region [p (.mv 10 (.b false))] none) <|
    .ret) <|
  .skip) <|
  .seq (.region [p (.build 59 [.t (.int .i64 0), .nilsl 2] []), p (.alloc 19 [.t (.int .i64 0), .nilsl 2]), p (.store 2 (.t 19) (.t 59))] none) <|
  .seq (.seq (.region [p (.faddr 60 0 (.t 17)), p (.load 61 false 1 (.t 60)), p (.bin 62 .eql .int (.t 61) (.i .i64 0))] none) <|
  .cond (.t 62) (.region [p (.load 63 true 5 (.t 6)), p (.call 64 26 [(.t 63)]), p (.store 2 (.t 19) (.t 64))] none) <|
  .skip) <|
  .seq (.seq (.region [p (.load 65 true 2 (.t 11)), p (.load 66 true 2 (.t 19)), p (.call 67 27 [(.t 65), (.t 66)]), p (.un 68 .not (.t 67))] none) <|
  .cond (.t 68) (.seq (.region [p (.mv 10 (.b false))] none) <|
    .ret) <|
  .skip) <|
  .seq (.region [p (.load 69 true 2 (.t 18)), p (.alloc 20 [.t (.int .i64 0), .t (.int .i64 0)]), p (.store 2 (.t 20) (.t 69))] none) <|
  .seq (.seq (.region [p (.faddr 70 0 (.t 20)), p (.load 71 false 1 (.t 70)), p (.bin 72 .eql .int (.t 71) (.i .i64 0)), p (.mv 73 (.t 72)), q 73 true (.faddr 74 0 (.t 17)), q 73 true (.load 75 false 1 (.t 74)), q 73 true (.bin 76 .neq .int (.t 75) (.i .i64 0)), p (.pick 77 (.t 73) (.t 76) (.b false))] none) <|
  .cond (.t 77) (.region [p (.faddr 78 0 (.t 17)), p (.load 79 false 1 (.t 78)), p (.call 80 28 [(.t 79), (.i .i64 (-5))]), p (.store 2 (.t 20) (.t 80))] none) <|
  .skip) <|
  .seq (.seq (.region [p (.load 81 true 2 (.t 16)), p (.load 82 true 2 (.t 20)), p (.bin 83 .neq (.agg [.i, .i]) (.t 81) (.t 82)), p (.mv 84 (.t 83)), q 84 false (.mv 85 (.t 15)), q 84 false (.faddr 86 0 (.t 20)), q 84 false (.load 87 false 1 (.t 86)), q 84 false (.bin 88 .eql .int (.t 87) (.i .i64 0)), q 84 false (.mv 89 (.t 88)), q 89 true (.faddr 90 1 (.t 5)), q 89 true (.load 91 false 1 (.t 90)), q 89 true (.faddr 92 1 (.t 19)), q 89 true (.load 93 false 1 (.t 92)), q 89 true (.call 94 29 [(.t 91), (.t 93)]), q 84 false (.pick 95 (.t 89) (.t 94) (.b false)), q 84 false (.bin 96 .neq .bool (.t 85) (.t 95)), p (.pick 97 (.t 84) (.b true) (.t 96))] none) <|
  .cond (.t 97) (.seq (.region [p (.mv 10 (.b false))] none) <|
    .ret) <|
  .skip) <|
  .seq (.seq (.region [p (.mv 21 (.i .i64 0))] none) <|
  .block 0 <|
   .loop (.filt [2, 3, 4, 5, 13, 14, 18, 21] c6l0)) <|
  .seq (.seq (.region [p (.faddr 128 0 (.t 18)), p (.load 129 false 1 (.t 128)), p (.bin 130 .eql .int (.t 129) (.i .i64 0)), p (.mv 131 (.t 130)), q 131 true (.mv 132 (.t 4)), q 131 true (.call 133 30 [(.t 132), (.i .i64 0), (.i .i64 1000000)]), q 131 true (.un 134 .not (.t 133)), p (.pick 135 (.t 131) (.t 134) (.b false))] none) <|
  .cond (.t 135) (.region [p (.call 136 28 [(.i .i64 3), (.i .i64 (-2))]), p (.store 2 (.t 18) (.t 136))] none) <|
  .skip) <|
  .seq (.region [p (.build 137 [.t (.int .i64 0), .nilsl 2] []), p (.alloc 22 [.t (.int .i64 0), .nilsl 2]), p (.store 2 (.t 22) (.t 137))] none) <|
  .seq (.seq (.region [p (.faddr 138 0 (.t 18)), p (.load 139 false 1 (.t 138)), p (.bin 140 .eql .int (.t 139) (.i .i64 0))] none) <|
  .cond (.t 140) (.seq (.region [p (.load 141 true 2 (.t 5)), p (.mv 142 (.t 2)), p (.mv 143 (.t 3)), p (.mv 144 (.t 4)), p (.call 145 31 [(.t 141), (.t 142), (.t 143), (.t 144)]), p (.store 2 (.t 22) (.t 145))] none) <|
    .region [p (.load 146 true 2 (.t 22)), p (.call 147 23 [(.t 146)]), p (.store 2 (.t 18) (.t 147))] none) <|
  .skip) <|
  .seq (.seq (.region [p (.faddr 148 0 (.t 18)), p (.load 149 false 1 (.t 148)), p (.bin 150 .neq .int (.t 149) (.i .i64 0))] none) <|
  .cond (.t 150) (.region [p (.build 151 [.t (.int .i64 0), .nilsl 2] []), p (.store 2 (.t 22) (.t 151))] none) <|
  .skip) <|
  .seq (.region [p (.load 152 true 2 (.t 14)), p (.load 153 true 2 (.t 18)), p (.bin 154 .eql (.agg [.i, .i]) (.t 152) (.t 153)), p (.mv 155 (.t 154)), q 155 true (.load 156 true 2 (.t 13)), q 155 true (.load 157 true 2 (.t 22)), q 155 true (.call 158 27 [(.t 156), (.t 157)]), p (.pick 159 (.t 155) (.t 158) (.b false)), p (.mv 10 (.t 159))] none) <|
  .ret⟩
theorem ok6 : compF Try.prog 6 = some c6.strip := by kernel_rfl

/-- posthouse/posthouselaw8.ResyncMatchesSpec -/
def c7 : FnC := ⟨3, 157, [.tmp 6],
  .seq (.region [p (.box 3 5 (.t 0)), p (.box 5 2 (.t 2)), p (.mv 6 (.b false))] none) <|
  .seq (.region [p (.load 21 true 5 (.t 3)), p (.mv 22 (.t 1)), p (.call 23 32 [(.t 21), (.t 22)]), p (.mv 20 (.t 23)), p (.ext 24 (.t 20) 0), p (.ext 25 (.t 20) 1), p (.ext 26 (.t 20) 2), p (.alloc 9 [.t (.int .i64 0), .t (.int .i64 0)]), p (.mv 7 (.t 24)), p (.mv 8 (.t 25)), p (.store 2 (.t 9) (.t 26))] none) <|
  .seq (.region [p (.load 28 true 5 (.t 3)), p (.load 29 true 2 (.t 5)), p (.call 30 33 [(.t 28), (.t 29)]), p (.mv 27 (.t 30)), p (.ext 31 (.t 27) 0), p (.ext 32 (.t 27) 1), p (.ext 33 (.t 27) 2), p (.alloc 10 [.t (.int .i64 0), .nilsl 2]), p (.alloc 12 [.t (.int .i64 0), .t (.int .i64 0)]), p (.store 2 (.t 10) (.t 31)), p (.mv 11 (.t 32)), p (.store 2 (.t 12) (.t 33))] none) <|
  .seq (.region [p (.load 34 true 5 (.t 3)), p (.call 35 22 [(.t 34)]), p (.alloc 13 [.t (.int .i64 0), .t (.int .i64 0)]), p (.store 2 (.t 13) (.t 35))] none) <|
  .seq (.region [p (.load 36 true 2 (.t 13)), p (.alloc 14 [.t (.int .i64 0), .t (.int .i64 0)]), p (.store 2 (.t 14) (.t 36))] none) <|
  .seq (.seq (.region [p (.faddr 37 0 (.t 14)), p (.load 38 false 1 (.t 37)), p (.bin 39 .eql .int (.t 38) (.i .i64 0)), p (.mv 40 (.t 39)), q 40 true (.mv 41 (.t 1)), q 40 true (.faddr 42 1 (.t 3)), q 40 true (.load 43 false 1 (.t 42)), q 40 true (.call 44 30 [(.t 41), (.i .i64 1), (.t 43)]), q 40 true (.un 45 .not (.t 44)), p (.pick 46 (.t 40) (.t 45) (.b false))] none) <|
  .cond (.t 46) (.region [p (.call 47 28 [(.i .i64 3), (.i .i64 (-4))]), p (.store 2 (.t 14) (.t 47))] none) <|
  .skip) <|
  .seq (.seq (.region [p (.faddr 48 0 (.t 14)), p (.load 49 false 1 (.t 48)), p (.bin 50 .eql .int (.t 49) (.i .i64 0)), p (.mv 51 (.t 50)), q 51 true (.mv 52 (.t 1)), q 51 true (.faddr 53 2 (.t 3)), q 51 true (.load 54 false 1 (.t 53)), q 51 true (.bin 55 .leq .int (.t 52) (.t 54)), p (.pick 56 (.t 51) (.t 55) (.b false))] none) <|
  .cond (.t 56) (.region [p (.call 57 28 [(.i .i64 8), (.i .i64 (-4))]), p (.store 2 (.t 14) (.t 57))] none) <|
  .skip) <|
  .seq (.seq (.region [p (.call 58 34 []), p (.un 59 .not (.t 58)), p (.mv 60 (.t 59)), q 60 false (.load 61 true 2 (.t 9)), q 60 false (.load 62 true 2 (.t 14)), q 60 false (.bin 63 .neq (.agg [.i, .i]) (.t 61) (.t 62)), p (.pick 64 (.t 60) (.b true) (.t 63))] none) <|
  .cond (.t 64) (.seq (.region [p (.mv 6 (.b false))] none) <|
    .ret) <|
  .skip) <|
  .seq (.region [p (.mv 15 (.nil 2))] none) <|
  .seq (.region [p (.mv 16 (.nil 1))] none) <|
  .seq (.seq (.region [p (.faddr 65 0 (.t 14)), p (.load 66 false 1 (.t 65)), p (.bin 67 .eql .int (.t 66) (.i .i64 0))] none) <|
  .cond (.t 67) (.region [p (.load 69 true 5 (.t 3)), p (.mv 70 (.t 1)), p (.call 71 35 [(.t 69), (.t 70)]), p (.mv 68 (.t 71)), p (.ext 72 (.t 68) 0), p (.ext 73 (.t 68) 1), p (.mv 15 (.t 72)), p (.mv 16 (.t 73))] none) <|
  .skip) <|
  .seq (.seq (.region [p (.mv 74 (.t 7)), p (.mv 75 (.t 15)), p (.call 76 29 [(.t 74), (.t 75)]), p (.un 77 .not (.t 76)), p (.mv 78 (.t 77)), q 78 false (.mv 79 (.t 8)), q 78 false (.mv 80 (.t 16)), q 78 false (.call 81 36 [(.t 79), (.t 80)]), q 78 false (.un 82 .not (.t 81)), p (.pick 83 (.t 78) (.b true) (.t 82))] none) <|
  .cond (.t 83) (.seq (.region [p (.mv 6 (.b false))] none) <|
    .ret) <|
  .skip) <|
  .seq (.seq (.region [p (.faddr 84 0 (.t 13)), p (.load 85 false 1 (.t 84)), p (.bin 86 .eql .int (.t 85) (.i .i64 0))] none) <|
  .cond (.t 86) (.seq (.region [p (.load 87 true 2 (.t 5)), p (.call 88 23 [(.t 87)]), p (.alloc 17 [.t (.int .i64 0), .t (.int .i64 0)]), p (.store 2 (.t 17) (.t 88))] none) <|
    .seq (.region [p (.faddr 89 0 (.t 17)), p (.load 90 false 1 (.t 89)), p (.bin 91 .neq .int (.t 90) (.i .i64 0))] none) <|
    .cond (.t 91) (.region [p (.faddr 92 0 (.t 17)), p (.load 93 false 1 (.t 92)), p (.call 94 28 [(.t 93), (.i .i64 (-5))]), p (.store 2 (.t 13) (.t 94))] none) <|
    .seq (.region [p (.faddr 95 0 (.t 5)), p (.load 96 false 1 (.t 95)), p (.faddr 97 1 (.t 3)), p (.load 98 false 1 (.t 97)), p (.bin 99 .gtr .int (.t 96) (.t 98))] none) <|
    .cond (.t 99) (.region [p (.call 100 28 [(.i .i64 15), (.i .i64 (-5))]), p (.store 2 (.t 13) (.t 100))] none) <|
    .skip) <|
  .skip) <|
  .seq (.seq (.region [p (.faddr 101 0 (.t 13)), p (.load 102 false 1 (.t 101)), p (.bin 103 .neq .int (.t 102) (.i .i64 0))] none) <|
  .cond (.t 103) (.seq (.region [p (.load 104 true 2 (.t 12)), p (.load 105 true 2 (.t 13)), p (.bin 106 .eql (.agg [.i, .i]) (.t 104) (.t 105)), p (.mv 107 (.t 106)), q 107 true (.mv 108 (.t 11)), q 107 true (.un 109 .not (.t 108)), p (.pick 110 (.t 107) (.t 109) (.b false)), p (.mv 111 (.t 110)), q 111 true (.load 112 true 2 (.t 10)), q 111 true (.build 113 [.t (.int .i64 0), .nilsl 2] []), q 111 true (.call 114 27 [(.t 112), (.t 113)]), p (.pick 115 (.t 111) (.t 114) (.b false)), p (.mv 6 (.t 115))] none) <|
    .ret) <|
  .skip) <|
  .seq (.seq (.region [p (.faddr 116 0 (.t 5)), p (.load 117 false 1 (.t 116)), p (.faddr 118 2 (.t 3)), p (.load 119 false 1 (.t 118)), p (.bin 120 .leq .int (.t 117) (.t 119))] none) <|
  .cond (.t 120) (.seq (.region [p (.faddr 121 0 (.t 12)), p (.load 122 false 1 (.t 121)), p (.bin 123 .eql .int (.t 122) (.i .i64 0)), p (.mv 124 (.t 123)), q 124 true (.mv 125 (.t 11)), p (.pick 126 (.t 124) (.t 125) (.b false)), p (.mv 127 (.t 126)), q 127 true (.load 128 true 2 (.t 10)), q 127 true (.load 129 true 5 (.t 3)), q 127 true (.call 130 26 [(.t 129)]), q 127 true (.call 131 27 [(.t 128), (.t 130)]), p (.pick 132 (.t 127) (.t 131) (.b false)), p (.mv 6 (.t 132))] (some [0, 1, 3, 7, 15, 31, 63, 127, 127, 383, 1023, 2047, 4095])) <|
    .ret) <|
  .skip) <|
  .seq (.region [p (.load 134 true 5 (.t 3)), p (.faddr 135 0 (.t 5)), p (.load 136 false 1 (.t 135)), p (.call 137 35 [(.t 134), (.t 136)]), p (.mv 133 (.t 137)), p (.ext 138 (.t 133) 0), p (.ext 139 (.t 133) 1), p (.mv 18 (.t 138)), p (.mv 19 (.t 139))] none) <|
  .seq (.region [p (.faddr 140 0 (.t 12)), p (.load 141 false 1 (.t 140)), p (.bin 142 .eql .int (.t 141) (.i .i64 0)), p (.mv 143 (.t 142)), q 143 true (.mv 144 (.t 11)), q 143 true (.un 145 .not (.t 144)), p (.pick 146 (.t 143) (.t 145) (.b false)), p (.mv 147 (.t 146)), q 147 true (.load 148 true 2 (.t 10)), q 147 true (.load 149 true 2 (.t 5)), q 147 true (.mv 150 (.t 18)), q 147 true (.mv 151 (.t 19)), q 147 true (.faddr 152 1 (.t 3)), q 147 true (.load 153 false 1 (.t 152)), q 147 true (.call 154 31 [(.t 149), (.t 150), (.t 151), (.t 153)]), q 147 true (.call 155 27 [(.t 148), (.t 154)]), p (.pick 156 (.t 147) (.t 155) (.b false)), p (.mv 6 (.t 156))] (some [0, 1, 3, 7, 15, 31, 63, 127, 255, 255, 255, 255, 255, 4351, 16127, 32767, 65535, 131071])) <|
  .ret⟩
theorem ok7 : compF Try.prog 7 = some c7.strip := by kernel_rfl

/-- posthouse/posthouselaw8.ResyncChangesAddUp -/
def c8l0 : AC :=
  .seq (.seq (.region [p (.mv 52 (.t 15)), p (.mv 53 (.t 7)), p (.len 54 false (.t 53)), p (.bin 55 .lss .int (.t 52) (.t 54))] none) <|
  .cond (.t 55) (.skip) <|
  .filt [7, 8, 10, 11, 13, 14] <|
  .exit 2) <|
  .seq (.block 3 <|
   .region [p (.mv 58 (.t 14)), p (.mv 59 (.t 58)), q 59 false (.mv 60 (.t 7)), q 59 false (.mv 61 (.t 15)), q 59 false (.iaddr 62 2 (.t 60) (.t 61)), q 59 false (.load 63 true 2 (.t 62)), q 59 false (.mv 64 (.t 10)), q 59 false (.mv 65 (.t 13)), q 59 false (.iaddr 66 2 (.t 64) (.t 65)), q 59 false (.load 67 true 2 (.t 66)), q 59 false (.bin 68 .eql (.agg [.i, .i]) (.t 63) (.t 67)), p (.pick 69 (.t 59) (.b true) (.t 68)), p (.mv 14 (.t 69))] (some [0, 1, 3, 3, 15, 31, 3, 3, 195, 451, 1023, 2047, 4095])) <|
  .region [p (.mv 56 (.t 15)), p (.bin 57 .add .int (.t 56) (.i .i64 1)), p (.mv 15 (.t 57))] none
def c8l1 : AC :=
  .seq (.seq (.region [p (.mv 46 (.t 13)), p (.mv 47 (.t 10)), p (.len 48 false (.t 47)), p (.bin 49 .lss .int (.t 46) (.t 48))] none) <|
  .cond (.t 49) (.skip) <|
  .filt [8, 11] <|
  .exit 0) <|
  .seq (.block 1 <|
   .seq (.region [p (.mv 14 (.b false))] none) <|
   .seq (.seq (.region [p (.mv 15 (.i .i64 0))] none) <|
   .block 2 <|
    .loop (.filt [7, 8, 10, 11, 13, 14, 15] c8l0)) <|
   .seq (.region [p (.mv 70 (.t 14)), p (.un 71 .not (.t 70))] none) <|
   .cond (.t 71) (.seq (.region [p (.mv 6 (.b false))] none) <|
     .filt [6] <|
     .ret) <|
   .skip) <|
  .region [p (.mv 50 (.t 13)), p (.bin 51 .add .int (.t 50) (.i .i64 1)), p (.mv 13 (.t 51))] none
def c8l2 : AC :=
  .seq (.seq (.region [p (.mv 72 (.t 16)), p (.mv 73 (.t 11)), p (.len 74 false (.t 73)), p (.bin 75 .lss .int (.t 72) (.t 74))] none) <|
  .cond (.t 75) (.skip) <|
  .filt [] <|
  .exit 4) <|
  .seq (.block 5 <|
   .seq (.region [p (.mv 78 (.t 8)), p (.mv 79 (.t 11)), p (.mv 80 (.t 16)), p (.iaddr 81 1 (.t 79) (.t 80)), p (.load 82 false 1 (.t 81)), p (.call 83 37 [(.t 78), (.t 82)]), p (.un 84 .not (.t 83))] none) <|
   .cond (.t 84) (.seq (.region [p (.mv 6 (.b false))] none) <|
     .filt [6] <|
     .ret) <|
   .skip) <|
  .region [p (.mv 76 (.t 16)), p (.bin 77 .add .int (.t 76) (.i .i64 1)), p (.mv 16 (.t 77))] none
def c8 : FnC := ⟨3, 85, [.tmp 6],
  .seq (.region [p (.box 3 5 (.t 0)), p (.mv 6 (.b false))] none) <|
  .seq (.seq (.region [p (.call 17 34 []), p (.un 18 .not (.t 17))] none) <|
  .cond (.t 18) (.seq (.region [p (.mv 6 (.b false))] none) <|
    .ret) <|
  .skip) <|
  .seq (.region [p (.load 20 true 5 (.t 3)), p (.mv 21 (.t 1)), p (.call 22 32 [(.t 20), (.t 21)]), p (.mv 19 (.t 22)), p (.ext 23 (.t 19) 0), p (.ext 24 (.t 19) 1), p (.ext 25 (.t 19) 2), p (.alloc 9 [.t (.int .i64 0), .t (.int .i64 0)]), p (.mv 7 (.t 23)), p (.mv 8 (.t 24)), p (.store 2 (.t 9) (.t 25))] none) <|
  .seq (.region [p (.load 27 true 5 (.t 3)), p (.mv 28 (.t 2)), p (.call 29 32 [(.t 27), (.t 28)]), p (.mv 26 (.t 29)), p (.ext 30 (.t 26) 0), p (.ext 31 (.t 26) 1), p (.ext 32 (.t 26) 2), p (.alloc 12 [.t (.int .i64 0), .t (.int .i64 0)]), p (.mv 10 (.t 30)), p (.mv 11 (.t 31)), p (.store 2 (.t 12) (.t 32))] none) <|
  .seq (.seq (.region [p (.faddr 33 0 (.t 9)), p (.load 34 false 1 (.t 33)), p (.bin 35 .neq .int (.t 34) (.i .i64 0)), p (.mv 36 (.t 35)), q 36 false (.faddr 37 0 (.t 12)), q 36 false (.load 38 false 1 (.t 37)), q 36 false (.bin 39 .neq .int (.t 38) (.i .i64 0)), p (.pick 40 (.t 36) (.b true) (.t 39)), p (.mv 41 (.t 40)), q 41 false (.mv 42 (.t 2)), q 41 false (.mv 43 (.t 1)), q 41 false (.bin 44 .lss .int (.t 42) (.t 43)), p (.pick 45 (.t 41) (.b true) (.t 44))] none) <|
  .cond (.t 45) (.seq (.region [p (.mv 6 (.b true))] none) <|
    .ret) <|
  .skip) <|
  .seq (.seq (.region [p (.mv 13 (.i .i64 0))] none) <|
  .block 0 <|
   .loop (.filt [7, 8, 10, 11, 13] c8l1)) <|
  .seq (.seq (.region [p (.mv 16 (.i .i64 0))] none) <|
  .block 4 <|
   .loop (.filt [8, 11, 16] c8l2)) <|
  .seq (.region [p (.mv 6 (.b true))] none) <|
  .ret⟩
theorem ok8 : compF Try.prog 8 = some c8.strip := by kernel_rfl

/-- posthouse/posthouselaw8.ViewsShowTheirMailbox -/
def c9 : FnC := ⟨2, 69, [.tmp 4],
  .seq (.region [p (.box 2 5 (.t 0)), p (.box 3 2 (.t 1)), p (.mv 4 (.b false))] none) <|
  .seq (.seq (.region [p (.call 13 24 []), p (.un 14 .not (.t 13))] none) <|
  .cond (.t 14) (.seq (.region [p (.mv 4 (.b false))] none) <|
    .ret) <|
  .skip) <|
  .seq (.region [p (.load 16 true 5 (.t 2)), p (.call 17 19 [(.t 16)]), p (.mv 15 (.t 17)), p (.ext 18 (.t 15) 0), p (.ext 19 (.t 15) 1), p (.alloc 5 [.t (.int .i64 0), .nilsl 2]), p (.alloc 6 [.t (.int .i64 0), .t (.int .i64 0)]), p (.store 2 (.t 5) (.t 18)), p (.store 2 (.t 6) (.t 19))] none) <|
  .seq (.region [p (.load 21 true 2 (.t 5)), p (.load 22 true 5 (.t 2)), p (.call 23 21 [(.t 21), (.t 22)]), p (.mv 20 (.t 23)), p (.ext 24 (.t 20) 0), p (.ext 25 (.t 20) 1), p (.alloc 8 [.t (.int .i64 0), .t (.int .i64 0)]), p (.mv 7 (.t 24)), p (.store 2 (.t 8) (.t 25))] none) <|
  .seq (.seq (.region [p (.faddr 26 0 (.t 6)), p (.load 27 false 1 (.t 26)), p (.bin 28 .neq .int (.t 27) (.i .i64 0))] none) <|
  .cond (.t 28) (.seq (.region [p (.load 29 true 2 (.t 5)), p (.build 30 [.t (.int .i64 0), .nilsl 2] []), p (.call 31 27 [(.t 29), (.t 30)]), p (.mv 4 (.t 31))] none) <|
    .ret) <|
  .skip) <|
  .seq (.region [p (.load 33 true 5 (.t 2)), p (.load 34 true 2 (.t 3)), p (.build 35 [.t (.int .i64 0), .t (.int .i64 0), .t (.int .i64 0), .t (.int .i64 0), .t (.int .i64 0), .nilsl 2, .nilsl 1] [(0, 1, (.i .i64 1)), (5, 2, (.t 34))]), p (.call 36 15 [(.t 33), (.t 35)]), p (.mv 32 (.t 36)), p (.ext 37 (.t 32) 0), p (.ext 38 (.t 32) 1), p (.alloc 9 [.t (.int .i64 0), .t (.int .i64 0), .t (.int .i64 0), .nilsl 6, .nilsl 2]), p (.alloc 10 [.t (.int .i64 0), .t (.int .i64 0)]), p (.store 5 (.t 9) (.t 37)), p (.store 2 (.t 10) (.t 38))] none) <|
  .seq (.seq (.region [p (.faddr 39 0 (.t 10)), p (.load 40 false 1 (.t 39)), p (.bin 41 .neq .int (.t 40) (.i .i64 0))] none) <|
  .cond (.t 41) (.seq (.region [p (.faddr 42 0 (.t 8)), p (.load 43 false 1 (.t 42)), p (.bin 44 .eql .int (.t 43) (.i .i64 0)), p (.mv 45 (.t 44)), q 45 true (.mv 46 (.t 7)), p (.pick 47 (.t 45) (.t 46) (.b false)), p (.mv 4 (.t 47))] none) <|
    .ret) <|
  .skip) <|
  .seq (.region [p (.load 49 true 2 (.t 5)), p (.load 50 true 5 (.t 9)), p (.call 51 21 [(.t 49), (.t 50)]), p (.mv 48 (.t 51)), p (.ext 52 (.t 48) 0), p (.ext 53 (.t 48) 1), p (.alloc 12 [.t (.int .i64 0), .t (.int .i64 0)]), p (.mv 11 (.t 52)), p (.store 2 (.t 12) (.t 53))] none) <|
  .seq (.region [p (.faddr 54 0 (.t 8)), p (.load 55 false 1 (.t 54)), p (.bin 56 .eql .int (.t 55) (.i .i64 0)), p (.mv 57 (.t 56)), q 57 true (.mv 58 (.t 7)), p (.pick 59 (.t 57) (.t 58) (.b false)), p (.mv 60 (.t 59)), q 60 true (.faddr 61 0 (.t 12)), q 60 true (.load 62 false 1 (.t 61)), q 60 true (.bin 63 .eql .int (.t 62) (.i .i64 0)), p (.pick 64 (.t 60) (.t 63) (.b false)), p (.mv 65 (.t 64)), q 65 true (.mv 66 (.t 11)), q 65 true (.un 67 .not (.t 66)), p (.pick 68 (.t 65) (.t 67) (.b false)), p (.mv 4 (.t 68))] none) <|
  .ret⟩
theorem ok9 : compF Try.prog 9 = some c9.strip := by kernel_rfl

/-- posthouse/posthouselaw8.ResyncTellsOneChange -/
def c10 : FnC := ⟨2, 70, [.tmp 4],
  .seq (.region [p (.box 2 5 (.t 0)), p (.box 3 7 (.t 1)), p (.mv 4 (.b false))] none) <|
  .seq (.seq (.region [p (.call 10 34 []), p (.un 11 .not (.t 10))] none) <|
  .cond (.t 11) (.seq (.region [p (.mv 4 (.b false))] none) <|
    .ret) <|
  .skip) <|
  .seq (.region [p (.load 13 true 5 (.t 2)), p (.load 14 true 7 (.t 3)), p (.call 15 15 [(.t 13), (.t 14)]), p (.mv 12 (.t 15)), p (.ext 16 (.t 12) 0), p (.ext 17 (.t 12) 1), p (.alloc 5 [.t (.int .i64 0), .t (.int .i64 0), .t (.int .i64 0), .nilsl 6, .nilsl 2]), p (.alloc 6 [.t (.int .i64 0), .t (.int .i64 0)]), p (.store 5 (.t 5) (.t 16)), p (.store 2 (.t 6) (.t 17))] none) <|
  .seq (.seq (.region [p (.faddr 18 0 (.t 6)), p (.load 19 false 1 (.t 18)), p (.bin 20 .neq .int (.t 19) (.i .i64 0))] none) <|
  .cond (.t 20) (.seq (.region [p (.mv 4 (.b true))] none) <|
    .ret) <|
  .skip) <|
  .seq (.region [p (.load 22 true 5 (.t 5)), p (.faddr 23 1 (.t 2)), p (.load 24 false 1 (.t 23)), p (.call 25 32 [(.t 22), (.t 24)]), p (.mv 21 (.t 25)), p (.ext 26 (.t 21) 0), p (.ext 27 (.t 21) 1), p (.ext 28 (.t 21) 2), p (.alloc 9 [.t (.int .i64 0), .t (.int .i64 0)]), p (.mv 7 (.t 26)), p (.mv 8 (.t 27)), p (.store 2 (.t 9) (.t 28))] none) <|
  .seq (.seq (.region [p (.faddr 29 0 (.t 9)), p (.load 30 false 1 (.t 29)), p (.bin 31 .neq .int (.t 30) (.i .i64 0))] none) <|
  .cond (.t 31) (.seq (.region [p (.faddr 32 2 (.t 5)), p (.load 33 false 1 (.t 32)), p (.faddr 34 1 (.t 2)), p (.load 35 false 1 (.t 34)), p (.bin 36 .geq .int (.t 33) (.t 35)), p (.mv 37 (.t 36)), q 37 true (.faddr 38 0 (.t 9)), q 37 true (.load 39 false 1 (.t 38)), q 37 true (.bin 40 .eql .int (.t 39) (.i .i64 8)), p (.pick 41 (.t 37) (.t 40) (.b false)), p (.mv 4 (.t 41))] none) <|
    .ret) <|
  .skip) <|
  .seq (.seq (.region [p (.faddr 42 1 (.t 5)), p (.load 43 false 1 (.t 42)), p (.faddr 44 1 (.t 2)), p (.load 45 false 1 (.t 44)), p (.bin 46 .eql .int (.t 43) (.t 45))] none) <|
  .cond (.t 46) (.seq (.region [p (.mv 47 (.t 7)), p (.len 48 false (.t 47)), p (.bin 49 .eql .int (.t 48) (.i .i64 0)), p (.mv 50 (.t 49)), q 50 true (.mv 51 (.t 8)), q 50 true (.len 52 false (.t 51)), q 50 true (.bin 53 .eql .int (.t 52) (.i .i64 0)), p (.pick 54 (.t 50) (.t 53) (.b false)), p (.mv 4 (.t 54))] none) <|
    .ret) <|
  .skip) <|
  .seq (.region [p (.mv 55 (.t 7)), p (.len 56 false (.t 55)), p (.mv 57 (.t 8)), p (.len 58 false (.t 57)), p (.bin 59 .add .int (.t 56) (.t 58)), p (.bin 60 .eql .int (.t 59) (.i .i64 1)), p (.mv 61 (.t 60)), q 61 true (.mv 62 (.t 8)), q 61 true (.len 63 false (.t 62)), q 61 true (.bin 64 .eql .int (.t 63) (.i .i64 1)), q 61 true (.faddr 65 0 (.t 3)), q 61 true (.load 66 false 1 (.t 65)), q 61 true (.bin 67 .eql .int (.t 66) (.i .i64 3)), q 61 true (.bin 68 .eql .bool (.t 64) (.t 67)), p (.pick 69 (.t 61) (.t 68) (.b false)), p (.mv 4 (.t 69))] none) <|
  .ret⟩
theorem ok10 : compF Try.prog 10 = some c10.strip := by kernel_rfl

/-- posthouse/posthouselaw8.ResyncCatchesUp -/
def c11l0 : AC :=
  .seq (.seq (.region [p (.mv 34 (.t 9)), p (.mv 35 (.t 1)), p (.len 36 false (.t 35)), p (.bin 37 .lss .int (.t 34) (.t 36))] none) <|
  .cond (.t 37) (.skip) <|
  .filt [2, 3, 7] <|
  .exit 0) <|
  .seq (.block 1 <|
   .seq (.region [p (.load 41 true 5 (.t 3)), p (.mv 42 (.t 1)), p (.mv 43 (.t 9)), p (.iaddr 44 7 (.t 42) (.t 43)), p (.load 45 true 7 (.t 44)), p (.call 46 15 [(.t 41), (.t 45)]), p (.mv 40 (.t 46)), p (.ext 47 (.t 40) 0), p (.ext 48 (.t 40) 1), p (.alloc 10 [.t (.int .i64 0), .t (.int .i64 0), .t (.int .i64 0), .nilsl 6, .nilsl 2]), p (.alloc 11 [.t (.int .i64 0), .t (.int .i64 0)]), p (.store 5 (.t 10) (.t 47)), p (.store 2 (.t 11) (.t 48))] (some [0, 0, 0, 6, 14, 31, 63, 127, 127, 0, 0, 1791, 4095])) <|
   .seq (.region [p (.faddr 49 0 (.t 11)), p (.load 50 false 1 (.t 49)), p (.bin 51 .eql .int (.t 50) (.i .i64 0))] none) <|
   .cond (.t 51) (.region [p (.load 52 true 5 (.t 10)), p (.store 5 (.t 3) (.t 52))] none) <|
   .skip) <|
  .region [p (.mv 38 (.t 9)), p (.bin 39 .add .int (.t 38) (.i .i64 1)), p (.mv 9 (.t 39))] none
def c11 : FnC := ⟨3, 94, [.tmp 6],
  .seq (.region [p (.box 3 5 (.t 0)), p (.mv 6 (.b false))] none) <|
  .seq (.seq (.region [p (.call 19 34 []), p (.un 20 .not (.t 19))] none) <|
  .cond (.t 20) (.seq (.region [p (.mv 6 (.b false))] none) <|
    .ret) <|
  .skip) <|
  .seq (.region [p (.load 22 true 5 (.t 3)), p (.call 23 19 [(.t 22)]), p (.mv 21 (.t 23)), p (.ext 24 (.t 21) 0), p (.ext 25 (.t 21) 1), p (.alloc 7 [.t (.int .i64 0), .nilsl 2]), p (.alloc 8 [.t (.int .i64 0), .t (.int .i64 0)]), p (.store 2 (.t 7) (.t 24)), p (.store 2 (.t 8) (.t 25))] none) <|
  .seq (.seq (.region [p (.faddr 26 0 (.t 8)), p (.load 27 false 1 (.t 26)), p (.bin 28 .neq .int (.t 27) (.i .i64 0)), p (.mv 29 (.t 28)), q 29 false (.mv 30 (.t 1)), q 29 false (.len 31 false (.t 30)), q 29 false (.bin 32 .gtr .int (.t 31) (.i .i64 20)), p (.pick 33 (.t 29) (.b true) (.t 32))] none) <|
  .cond (.t 33) (.seq (.region [p (.mv 6 (.b true))] none) <|
    .ret) <|
  .skip) <|
  .seq (.seq (.region [p (.mv 9 (.i .i64 0))] none) <|
  .block 0 <|
   .loop (.filt [1, 2, 3, 7, 9] c11l0)) <|
  .seq (.seq (.region [p (.load 54 true 5 (.t 3)), p (.mv 55 (.t 2)), p (.call 56 38 [(.t 54), (.t 55)]), p (.mv 53 (.t 56)), p (.ext 57 (.t 53) 0), p (.ext 58 (.t 53) 1), p (.alloc 12 [.t (.int .i64 0), .t (.int .i64 0), .t (.int .i64 0), .nilsl 6, .nilsl 2]), p (.alloc 13 [.t (.int .i64 0), .t (.int .i64 0)]), p (.store 5 (.t 12) (.t 57)), p (.store 2 (.t 13) (.t 58))] none) <|
  .seq (.region [p (.faddr 59 0 (.t 13)), p (.load 60 false 1 (.t 59)), p (.bin 61 .eql .int (.t 60) (.i .i64 0))] none) <|
  .cond (.t 61) (.region [p (.load 62 true 5 (.t 12)), p (.store 5 (.t 3) (.t 62))] none) <|
  .skip) <|
  .seq (.region [p (.load 64 true 5 (.t 3)), p (.load 65 true 2 (.t 7)), p (.call 66 33 [(.t 64), (.t 65)]), p (.mv 63 (.t 66)), p (.ext 67 (.t 63) 0), p (.ext 68 (.t 63) 1), p (.ext 69 (.t 63) 2), p (.alloc 14 [.t (.int .i64 0), .nilsl 2]), p (.alloc 16 [.t (.int .i64 0), .t (.int .i64 0)]), p (.store 2 (.t 14) (.t 67)), p (.mv 15 (.t 68)), p (.store 2 (.t 16) (.t 69))] none) <|
  .seq (.region [p (.load 71 true 2 (.t 14)), p (.load 72 true 5 (.t 3)), p (.call 73 21 [(.t 71), (.t 72)]), p (.mv 70 (.t 73)), p (.ext 74 (.t 70) 0), p (.ext 75 (.t 70) 1), p (.alloc 18 [.t (.int .i64 0), .t (.int .i64 0)]), p (.mv 17 (.t 74)), p (.store 2 (.t 18) (.t 75))] none) <|
  .seq (.region [p (.faddr 76 0 (.t 16)), p (.load 77 false 1 (.t 76)), p (.bin 78 .eql .int (.t 77) (.i .i64 0)), p (.mv 79 (.t 78)), q 79 true (.faddr 80 0 (.t 14)), q 79 true (.load 81 false 1 (.t 80)), q 79 true (.faddr 82 1 (.t 3)), q 79 true (.load 83 false 1 (.t 82)), q 79 true (.bin 84 .eql .int (.t 81) (.t 83)), p (.pick 85 (.t 79) (.t 84) (.b false)), p (.mv 86 (.t 85)), q 86 true (.faddr 87 0 (.t 18)), q 86 true (.load 88 false 1 (.t 87)), q 86 true (.bin 89 .eql .int (.t 88) (.i .i64 0)), p (.pick 90 (.t 86) (.t 89) (.b false)), p (.mv 91 (.t 90)), q 91 true (.mv 92 (.t 17)), p (.pick 93 (.t 91) (.t 92) (.b false)), p (.mv 6 (.t 93))] none) <|
  .ret⟩
theorem ok11 : compF Try.prog 11 = some c11.strip := by kernel_rfl

/-- posthouse/posthouselaw8.OfflineReportsAll -/
def c12 : FnC := ⟨2, 70, [.tmp 4],
  .seq (.region [p (.box 2 5 (.t 0)), p (.mv 4 (.b false))] none) <|
  .seq (.seq (.region [p (.call 15 39 []), p (.un 16 .not (.t 15))] none) <|
  .cond (.t 16) (.seq (.region [p (.mv 4 (.b false))] none) <|
    .ret) <|
  .skip) <|
  .seq (.region [p (.load 18 true 5 (.t 2)), p (.call 19 19 [(.t 18)]), p (.mv 17 (.t 19)), p (.ext 20 (.t 17) 0), p (.ext 21 (.t 17) 1), p (.alloc 5 [.t (.int .i64 0), .nilsl 2]), p (.alloc 6 [.t (.int .i64 0), .t (.int .i64 0)]), p (.store 2 (.t 5) (.t 20)), p (.store 2 (.t 6) (.t 21))] none) <|
  .seq (.region [p (.load 23 true 5 (.t 2)), p (.faddr 24 1 (.t 2)), p (.load 25 false 1 (.t 24)), p (.mv 26 (.t 1)), p (.call 27 40 [(.t 23), (.t 25), (.t 26)]), p (.mv 22 (.t 27)), p (.ext 28 (.t 22) 0), p (.ext 29 (.t 22) 1), p (.ext 30 (.t 22) 2), p (.alloc 7 [.t (.int .i64 0), .t (.int .i64 0), .t (.int .i64 0), .nilsl 6, .nilsl 2]), p (.alloc 9 [.t (.int .i64 0), .t (.int .i64 0)]), p (.store 5 (.t 7) (.t 28)), p (.mv 8 (.t 29)), p (.store 2 (.t 9) (.t 30))] none) <|
  .seq (.seq (.region [p (.faddr 31 0 (.t 6)), p (.load 32 false 1 (.t 31)), p (.bin 33 .neq .int (.t 32) (.i .i64 0)), p (.mv 34 (.t 33)), q 34 false (.faddr 35 0 (.t 9)), q 34 false (.load 36 false 1 (.t 35)), q 34 false (.bin 37 .neq .int (.t 36) (.i .i64 0)), p (.pick 38 (.t 34) (.b true) (.t 37))] none) <|
  .cond (.t 38) (.seq (.region [p (.mv 4 (.b true))] none) <|
    .ret) <|
  .skip) <|
  .seq (.region [p (.load 40 true 5 (.t 7)), p (.load 41 true 2 (.t 5)), p (.call 42 33 [(.t 40), (.t 41)]), p (.mv 39 (.t 42)), p (.ext 43 (.t 39) 0), p (.ext 44 (.t 39) 1), p (.ext 45 (.t 39) 2), p (.alloc 10 [.t (.int .i64 0), .nilsl 2]), p (.alloc 12 [.t (.int .i64 0), .t (.int .i64 0)]), p (.store 2 (.t 10) (.t 43)), p (.mv 11 (.t 44)), p (.store 2 (.t 12) (.t 45))] none) <|
  .seq (.region [p (.load 47 true 2 (.t 10)), p (.load 48 true 5 (.t 7)), p (.call 49 21 [(.t 47), (.t 48)]), p (.mv 46 (.t 49)), p (.ext 50 (.t 46) 0), p (.ext 51 (.t 46) 1), p (.alloc 14 [.t (.int .i64 0), .t (.int .i64 0)]), p (.mv 13 (.t 50)), p (.store 2 (.t 14) (.t 51))] none) <|
  .seq (.region [p (.mv 52 (.t 8)), p (.len 53 false (.t 52)), p (.mv 54 (.t 1)), p (.len 55 false (.t 54)), p (.bin 56 .eql .int (.t 53) (.t 55)), p (.mv 57 (.t 56)), q 57 true (.faddr 58 0 (.t 12)), q 57 true (.load 59 false 1 (.t 58)), q 57 true (.bin 60 .eql .int (.t 59) (.i .i64 0)), p (.pick 61 (.t 57) (.t 60) (.b false)), p (.mv 62 (.t 61)), q 62 true (.faddr 63 0 (.t 14)), q 62 true (.load 64 false 1 (.t 63)), q 62 true (.bin 65 .eql .int (.t 64) (.i .i64 0)), p (.pick 66 (.t 62) (.t 65) (.b false)), p (.mv 67 (.t 66)), q 67 true (.mv 68 (.t 13)), p (.pick 69 (.t 67) (.t 68) (.b false)), p (.mv 4 (.t 69))] none) <|
  .ret⟩
theorem ok12 : compF Try.prog 12 = some c12.strip := by kernel_rfl

/-- posthouse/posthouselaw8.quotaExample -/
def c13 : FnC := ⟨0, 64, [.tmp 0],
  .seq (.region [p (.mv 0 (.b false))] none) <|
  .seq (.region [p (.call 8 42 [(.s [98])]), p (.call 9 41 [(.t 8)]), p (.len 10 false (.t 9)), p (.mv 1 (.t 10))] none) <|
  .seq (.region [p (.call 12 43 []), p (.bsl 13 5 1 [(.int .i64 0), (.int .i64 0), (.int .i64 0), (.sl 6 []), (.sl 2 [])] [(0, (.t 12))]), p (.call 14 16 [(.t 13)]), p (.mv 11 (.t 14)), p (.ext 15 (.t 11) 0), p (.ext 16 (.t 11) 1), p (.alloc 2 [.t (.int .i64 0), .t (.int .i64 0)]), p (.alloc 3 [.t (.int .i64 0), .t (.int .i64 0)]), p (.store 2 (.t 2) (.t 15)), p (.store 2 (.t 3) (.t 16))] none) <|
  .seq (.region [p (.call 18 43 []), p (.bsl 19 5 1 [(.int .i64 0), (.int .i64 0), (.int .i64 0), (.sl 6 []), (.sl 2 [])] [(0, (.t 18))]), p (.mv 20 (.t 1)), p (.bin 21 .mul .int (.i .i64 2) (.t 20)), p (.build 22 [.t (.int .i64 0), .t (.int .i64 0)] [(0, 1, (.t 21)), (1, 1, (.i .i64 2))]), p (.call 23 42 [(.s [99])]), p (.call 24 14 [(.t 19), (.t 22), (.t 23)]), p (.mv 17 (.t 24)), p (.ext 25 (.t 17) 0), p (.ext 26 (.t 17) 1), p (.alloc 5 [.t (.int .i64 0), .t (.int .i64 0)]), p (.mv 4 (.t 25)), p (.store 2 (.t 5) (.t 26))] none) <|
  .seq (.region [p (.call 28 43 []), p (.build 29 [.t (.int .i64 0), .t (.int .i64 0)] []), p (.call 30 17 [(.t 28), (.t 29)]), p (.mv 27 (.t 30)), p (.ext 31 (.t 27) 0), p (.ext 32 (.t 27) 1), p (.alloc 7 [.t (.int .i64 0), .t (.int .i64 0)]), p (.mv 6 (.t 31)), p (.store 2 (.t 7) (.t 32))] none) <|
  .seq (.region [p (.mv 33 (.t 1)), p (.bin 34 .gtr .int (.t 33) (.i .i64 3)), p (.mv 35 (.t 34)), q 35 true (.faddr 36 0 (.t 3)), q 35 true (.load 37 false 1 (.t 36)), q 35 true (.bin 38 .eql .int (.t 37) (.i .i64 0)), p (.pick 39 (.t 35) (.t 38) (.b false)), p (.mv 40 (.t 39)), q 40 true (.load 41 true 2 (.t 2)), q 40 true (.mv 42 (.t 1)), q 40 true (.build 43 [.t (.int .i64 0), .t (.int .i64 0)] [(0, 1, (.t 42)), (1, 1, (.i .i64 1))]), q 40 true (.bin 44 .eql (.agg [.i, .i]) (.t 41) (.t 43)), p (.pick 45 (.t 40) (.t 44) (.b false)), p (.mv 46 (.t 45)), q 46 true (.faddr 47 0 (.t 5)), q 46 true (.load 48 false 1 (.t 47)), q 46 true (.bin 49 .eql .int (.t 48) (.i .i64 0)), p (.pick 50 (.t 46) (.t 49) (.b false)), p (.mv 51 (.t 50)), q 51 true (.mv 52 (.t 4)), p (.pick 53 (.t 51) (.t 52) (.b false)), p (.mv 54 (.t 53)), q 54 true (.faddr 55 0 (.t 7)), q 54 true (.load 56 false 1 (.t 55)), q 54 true (.bin 57 .eql .int (.t 56) (.i .i64 0)), p (.pick 58 (.t 54) (.t 57) (.b false)), p (.mv 59 (.t 58)), q 59 true (.mv 60 (.t 6)), q 59 true (.bsl 61 1 1 [(.int .i64 0)] [(0, (.i .i64 2))]), q 59 true (.call 62 36 [(.t 60), (.t 61)]), p (.pick 63 (.t 59) (.t 62) (.b false)), p (.mv 0 (.t 63))] none) <|
  .ret⟩
theorem ok13 : compF Try.prog 13 = some c13.strip := by kernel_rfl

/-- posthouse/quota.Fits -/
def c14 : FnC := ⟨3, 36, [.tmp 6, .cell 7 true 2],
  .seq (.region [p (.box 4 2 (.t 1)), p (.box 5 2 (.t 2)), p (.mv 6 (.b false)), p (.alloc 7 [.t (.int .i64 0), .t (.int .i64 0)])] none) <|
  .seq (.seq (.region [p (.mv 11 (.t 0)), p (.call 12 44 [(.t 11)]), p (.alloc 8 [.t (.int .i64 0), .t (.int .i64 0)]), p (.store 2 (.t 8) (.t 12))] none) <|
  .seq (.region [p (.load 13 true 2 (.t 8)), p (.call 14 45 [(.t 13)])] none) <|
  .cond (.t 14) (.seq (.region [p (.load 15 true 2 (.t 8)), p (.mv 6 (.b false)), p (.store 2 (.t 7) (.t 15))] (some [0, 0, 3])) <|
    .filt [6, 7] <|
    .ret) <|
  .skip) <|
  .seq (.seq (.region [p (.load 16 true 2 (.t 4)), p (.call 17 46 [(.t 16)]), p (.alloc 9 [.t (.int .i64 0), .t (.int .i64 0)]), p (.store 2 (.t 9) (.t 17))] none) <|
  .seq (.region [p (.load 18 true 2 (.t 9)), p (.call 19 45 [(.t 18)])] none) <|
  .cond (.t 19) (.seq (.region [p (.load 20 true 2 (.t 9)), p (.mv 6 (.b false)), p (.store 2 (.t 7) (.t 20))] (some [0, 0, 3])) <|
    .filt [6, 7] <|
    .ret) <|
  .skip) <|
  .seq (.seq (.region [p (.load 21 true 2 (.t 5)), p (.call 22 47 [(.t 21)]), p (.alloc 10 [.t (.int .i64 0), .t (.int .i64 0)]), p (.store 2 (.t 10) (.t 22))] none) <|
  .seq (.region [p (.load 23 true 2 (.t 10)), p (.call 24 45 [(.t 23)])] none) <|
  .cond (.t 24) (.seq (.region [p (.faddr 25 0 (.t 10)), p (.load 26 false 1 (.t 25)), p (.call 27 48 [(.t 26), (.i .i64 (-6))]), p (.mv 6 (.b false)), p (.store 2 (.t 7) (.t 27))] none) <|
    .filt [6, 7] <|
    .ret) <|
  .skip) <|
  .seq (.region [p (.mv 28 (.t 0)), p (.call 29 51 [(.t 28)]), p (.load 30 true 2 (.t 5)), p (.call 31 52 [(.t 30)]), p (.call 32 50 [(.t 29), (.t 31)]), p (.load 33 true 2 (.t 4)), p (.call 34 49 [(.t 32), (.t 33)]), p (.call 35 53 []), p (.mv 6 (.t 34)), p (.store 2 (.t 7) (.t 35))] (some [0, 1, 0, 7, 15, 0, 63, 127, 255, 511])) <|
  .filt [6, 7] <|
  .ret⟩
theorem ok14 : compF Try.prog 14 = some c14.strip := by kernel_rfl

/-- posthouse/mailbox.Apply -/
def c15 : FnC := ⟨2, 18, [.cell 4 true 5, .cell 5 true 2],
  .seq (.region [p (.box 2 5 (.t 0)), p (.box 3 7 (.t 1)), p (.alloc 4 [.t (.int .i64 0), .t (.int .i64 0), .t (.int .i64 0), .nilsl 6, .nilsl 2]), p (.alloc 5 [.t (.int .i64 0), .t (.int .i64 0)])] none) <|
  .seq (.seq (.region [p (.load 7 true 5 (.t 2)), p (.call 8 54 [(.t 7)]), p (.alloc 6 [.t (.int .i64 0), .t (.int .i64 0)]), p (.store 2 (.t 6) (.t 8))] none) <|
  .seq (.region [p (.load 9 true 2 (.t 6)), p (.call 10 45 [(.t 9)])] none) <|
  .cond (.t 10) (.seq (.region [p (.build 11 [.t (.int .i64 0), .t (.int .i64 0), .t (.int .i64 0), .nilsl 6, .nilsl 2] []), p (.load 12 true 2 (.t 6)), p (.store 5 (.t 4) (.t 11)), p (.store 2 (.t 5) (.t 12))] (some [0, 0, 1, 7])) <|
    .ret) <|
  .skip) <|
  .seq (.region [p (.load 13 true 5 (.t 2)), p (.load 14 true 7 (.t 3)), p (.call 15 55 [(.t 13), (.t 14)]), p (.ext 16 (.t 15) 0), p (.ext 17 (.t 15) 1), p (.store 5 (.t 4) (.t 16)), p (.store 2 (.t 5) (.t 17))] none) <|
  .ret⟩
theorem ok15 : compF Try.prog 15 = some c15.strip := by kernel_rfl

/-- posthouse/quota.Used -/
def c16 : FnC := ⟨1, 14, [.cell 2 true 2, .cell 3 true 2],
  .seq (.region [p (.alloc 2 [.t (.int .i64 0), .t (.int .i64 0)]), p (.alloc 3 [.t (.int .i64 0), .t (.int .i64 0)])] none) <|
  .seq (.seq (.region [p (.mv 5 (.t 0)), p (.call 6 44 [(.t 5)]), p (.alloc 4 [.t (.int .i64 0), .t (.int .i64 0)]), p (.store 2 (.t 4) (.t 6))] none) <|
  .seq (.region [p (.load 7 true 2 (.t 4)), p (.call 8 45 [(.t 7)])] none) <|
  .cond (.t 8) (.seq (.region [p (.build 9 [.t (.int .i64 0), .t (.int .i64 0)] []), p (.load 10 true 2 (.t 4)), p (.store 2 (.t 2) (.t 9)), p (.store 2 (.t 3) (.t 10))] (some [0, 0, 1, 7])) <|
    .filt [2, 3] <|
    .ret) <|
  .skip) <|
  .seq (.region [p (.mv 11 (.t 0)), p (.call 12 51 [(.t 11)]), p (.call 13 53 []), p (.store 2 (.t 2) (.t 12)), p (.store 2 (.t 3) (.t 13))] none) <|
  .filt [2, 3] <|
  .ret⟩
theorem ok16 : compF Try.prog 16 = some c16.strip := by kernel_rfl

/-- posthouse/quota.Excess -/
def c17l0 : AC :=
  .own 9 1 900 <|
  .seq (.region [p (.bin 30 .lss .int (.t 29) (.t 28))] none) <|
  .seq (.cond (.t 30) (.skip) <|
  .filt [5, 9] <|
  .exit 0) <|
  .seq (.block 1 <|
   .seq (.region [p (.iaddr 31 6 (.t 27) (.t 29)), p (.load 32 true 6 (.t 31)), p (.alloc 11 [.t (.int .i64 0), .t (.int .i64 0), .t (.int .i64 0), .t (.int .i64 0), .nilsl 2, .nilsl 1]), p (.store 6 (.t 11) (.t 32))] none) <|
   .seq (.seq (.region [p (.load 33 true 2 (.t 8)), p (.load 34 true 2 (.t 3)), p (.call 35 49 [(.t 33), (.t 34)])] none) <|
   .cond (.t 35) (.filt [5, 9] <|
     .exit 0) <|
   .skip) <|
   .seq (.region [p (.faddr 36 4 (.t 11)), p (.load 37 true 2 (.t 36)), p (.call 38 52 [(.t 37)]), p (.alloc 12 [.t (.int .i64 0), .t (.int .i64 0)]), p (.store 2 (.t 12) (.t 38))] none) <|
   .seq (.region [p (.load 39 true 2 (.t 8)), p (.faddr 40 0 (.t 12)), p (.load 41 false 1 (.t 40)), p (.un 42 .neg (.t 41)), p (.faddr 43 1 (.t 12)), p (.load 44 false 1 (.t 43)), p (.un 45 .neg (.t 44)), p (.build 46 [.t (.int .i64 0), .t (.int .i64 0)] [(0, 1, (.t 42)), (1, 1, (.t 45))]), p (.call 47 50 [(.t 39), (.t 46)]), p (.store 2 (.t 8) (.t 47))] none) <|
   .region [p (.mv 48 (.t 9)), p (.faddr 49 0 (.t 11)), p (.load 50 false 1 (.t 49)), p (.bsl 51 1 1 [(.int .i64 0)] [(0, (.t 50))]), p (.app 52 1 8 (.t 48) (.t 51)), p (.mv 9 (.t 52))] none) <|
  .region [p (.bin 53 .add .int (.t 29) (.i .i64 1)), p (.mv 29 (.t 53))] none
def c17 : FnC := ⟨2, 56, [.tmp 4, .cell 5 true 2],
  .seq (.region [p (.box 2 5 (.t 0)), p (.box 3 2 (.t 1)), p (.mv 4 (.nil 1)), p (.alloc 5 [.t (.int .i64 0), .t (.int .i64 0)])] none) <|
  .seq (.seq (.region [p (.load 13 true 5 (.t 2)), p (.call 14 54 [(.t 13)]), p (.alloc 6 [.t (.int .i64 0), .t (.int .i64 0)]), p (.store 2 (.t 6) (.t 14))] none) <|
  .seq (.region [p (.load 15 true 2 (.t 6)), p (.call 16 45 [(.t 15)])] none) <|
  .cond (.t 16) (.seq (.region [p (.load 17 true 2 (.t 6)), p (.mv 4 (.nil 1)), p (.store 2 (.t 5) (.t 17))] (some [0, 0, 3])) <|
    .ret) <|
  .skip) <|
  .seq (.seq (.region [p (.load 18 true 2 (.t 3)), p (.call 19 46 [(.t 18)]), p (.alloc 7 [.t (.int .i64 0), .t (.int .i64 0)]), p (.store 2 (.t 7) (.t 19))] none) <|
  .seq (.region [p (.load 20 true 2 (.t 7)), p (.call 21 45 [(.t 20)])] none) <|
  .cond (.t 21) (.seq (.region [p (.load 22 true 2 (.t 7)), p (.mv 4 (.nil 1)), p (.store 2 (.t 5) (.t 22))] (some [0, 0, 3])) <|
    .ret) <|
  .skip) <|
  .seq (.region [p (.load 23 true 5 (.t 2)), p (.bsl 24 5 1 [(.int .i64 0), (.int .i64 0), (.int .i64 0), (.sl 6 []), (.sl 2 [])] [(0, (.t 23))]), p (.call 25 51 [(.t 24)]), p (.alloc 8 [.t (.int .i64 0), .t (.int .i64 0)]), p (.store 2 (.t 8) (.t 25))] none) <|
  .seq (.region [p (.mv 9 (.nil 1))] none) <|
  .seq (.seq (.region [p (.faddr 26 3 (.t 2)), p (.load 27 false 1 (.t 26)), p (.len 28 false (.t 27)), p (.mv 29 (.i .i64 0))] none) <|
  .block 0 <|
   .loop (.filt [3, 5, 8, 9, 27, 28, 29] c17l0)) <|
  .seq (.region [p (.mv 54 (.t 9)), p (.call 55 53 []), p (.mv 4 (.t 54)), p (.store 2 (.t 5) (.t 55))] none) <|
  .ret⟩
theorem ok17 : compF Try.prog 17 = some c17.strip := by kernel_rfl

end Go.Proofs.Ytbempckmbfbjgaa.Code

namespace Go.Proofs.Ytbempckmbfbjgaa.Code
open Go.Ev
set_option maxRecDepth 100000

/-- posthouse/message.Write -/
def c18 : FnC := ⟨1, 13, [.tmp 2, .cell 3 true 2],
  .seq (.region [p (.box 1 2 (.t 0)), p (.mv 2 (.nil 1)), p (.alloc 3 [.t (.int .i64 0), .t (.int .i64 0)])] none) <|
  .seq (.seq (.region [p (.load 5 true 2 (.t 1)), p (.call 6 47 [(.t 5)]), p (.alloc 4 [.t (.int .i64 0), .t (.int .i64 0)]), p (.store 2 (.t 4) (.t 6))] none) <|
  .seq (.region [p (.load 7 true 2 (.t 4)), p (.call 8 45 [(.t 7)])] none) <|
  .cond (.t 8) (.seq (.region [p (.load 9 true 2 (.t 4)), p (.mv 2 (.nil 1)), p (.store 2 (.t 3) (.t 9))] (some [0, 0, 3])) <|
    .ret) <|
  .skip) <|
  .seq (.region [p (.load 10 true 2 (.t 1)), p (.call 11 56 [(.t 10)]), p (.call 12 53 []), p (.mv 2 (.t 11)), p (.store 2 (.t 3) (.t 12))] none) <|
  .ret⟩
theorem ok18 : compF Try.prog 18 = some c18.strip := by kernel_rfl

/-- posthouse/views.Of -/
def c19 : FnC := ⟨1, 17, [.cell 2 true 2, .cell 3 true 2],
  .seq (.region [p (.box 1 5 (.t 0)), p (.alloc 2 [.t (.int .i64 0), .nilsl 2]), p (.alloc 3 [.t (.int .i64 0), .t (.int .i64 0)])] none) <|
  .seq (.seq (.region [p (.load 5 true 5 (.t 1)), p (.call 6 54 [(.t 5)]), p (.alloc 4 [.t (.int .i64 0), .t (.int .i64 0)]), p (.store 2 (.t 4) (.t 6))] none) <|
  .seq (.region [p (.load 7 true 2 (.t 4)), p (.call 8 45 [(.t 7)])] none) <|
  .cond (.t 8) (.seq (.region [p (.build 9 [.t (.int .i64 0), .nilsl 2] []), p (.load 10 true 2 (.t 4)), p (.store 2 (.t 2) (.t 9)), p (.store 2 (.t 3) (.t 10))] (some [0, 0, 1, 7])) <|
    .ret) <|
  .skip) <|
  .seq (.region [p (.faddr 11 1 (.t 1)), p (.load 12 false 1 (.t 11)), p (.load 13 true 5 (.t 1)), p (.call 14 57 [(.t 13)]), p (.build 15 [.t (.int .i64 0), .nilsl 2] [(0, 1, (.t 12)), (1, 1, (.t 14))]), p (.call 16 53 []), p (.store 2 (.t 2) (.t 15)), p (.store 2 (.t 3) (.t 16))] (some [0, 1, 0, 4, 15, 12, 63, 127])) <|
  .ret⟩
theorem ok19 : compF Try.prog 19 = some c19.strip := by kernel_rfl

/-- posthouse/views.Update -/
def c20l0 : AC :=
  .seq (.region [p (.bin 28 .lss .int (.t 27) (.t 26))] none) <|
  .seq (.cond (.t 28) (.skip) <|
  .filt [1, 3, 4, 6, 8, 9] <|
  .exit 0) <|
  .seq (.block 1 <|
   .seq (.region [p (.mv 29 (.t 27)), p (.iaddr 30 2 (.t 25) (.t 27)), p (.load 31 true 2 (.t 30)), p (.alloc 12 [.t (.int .i64 0), .t (.int .i64 0)]), p (.mv 11 (.t 29)), p (.store 2 (.t 12) (.t 31))] none) <|
   .seq (.region [p (.load 32 true 2 (.t 12)), p (.call 33 58 [(.t 32)]), p (.un 34 .not (.t 33))] none) <|
   .cond (.t 34) (.seq (.region [p (.build 35 [.t (.int .i64 0), .nilsl 2] []), p (.mv 36 (.t 11)), p (.bin 37 .add .int (.i .i64 1000) (.t 36)), p (.call 38 48 [(.i .i64 3), (.t 37)]), p (.store 2 (.t 8) (.t 35)), p (.store 2 (.t 9) (.t 38))] none) <|
     .filt [8, 9] <|
     .ret) <|
   .skip) <|
  .region [p (.bin 39 .add .int (.t 27) (.i .i64 1)), p (.mv 27 (.t 39))] none
def c20l1 : AC :=
  .own 100130001 2 1390 <|
  .seq (.region [p (.bin 56 .lss .int (.t 55) (.t 54))] none) <|
  .seq (.cond (.t 56) (.skip) <|
  .filt [6, 8, 9, 13] <|
  .exit 2) <|
  .seq (.block 3 <|
   .seq (.region [p (.iaddr 57 2 (.t 53) (.t 55)), p (.load 58 true 2 (.t 57)), p (.alloc 15 [.t (.int .i64 0), .t (.int .i64 0)]), p (.store 2 (.t 15) (.t 58))] none) <|
   .seq (.region [p (.faddr 60 1 (.t 13)), p (.load 61 false 1 (.t 60)), p (.load 62 true 2 (.t 15)), p (.call 63 60 [(.t 61), (.t 62), (.f 61)]), p (.mv 59 (.t 63)), p (.ext 64 (.t 59) 0), p (.ext 65 (.t 59) 1), p (.mv 16 (.t 64)), p (.mv 17 (.t 65))] none) <|
   .seq (.region [p (.mv 66 (.t 17))] none) <|
   .cond (.t 66) (.region [p (.faddr 67 1 (.t 13)), p (.load 68 false 1 (.t 67)), p (.mv 69 (.t 16)), p (.load 70 true 2 (.t 15)), p (.iaddr 71 2 (.t 68) (.t 69)), p (.store 2 (.t 71) (.t 70))] none) <|
   .region [p (.faddr 72 1 (.t 13)), p (.load 73 false 1 (.t 72)), p (.mv 74 (.t 16)), p (.load 75 true 2 (.t 15)), p (.bsl 76 2 1 [(.int .i64 0), (.int .i64 0)] [(0, (.t 75))]), p (.call 77 62 [(.t 73), (.t 74), (.t 76)]), p (.faddr 78 1 (.t 13)), p (.store 1 (.t 78) (.t 77))] none) <|
  .region [p (.bin 79 .add .int (.t 55) (.i .i64 1)), p (.mv 55 (.t 79))] none
def c20 : FnC := ⟨4, 93, [.cell 8 true 2, .cell 9 true 2],
  .seq (.region [p (.box 4 2 (.t 0)), p (.box 6 1 (.t 2)), p (.alloc 8 [.t (.int .i64 0), .nilsl 2]), p (.alloc 9 [.t (.int .i64 0), .t (.int .i64 0)])] none) <|
  .seq (.seq (.region [p (.load 19 true 2 (.t 4)), p (.call 20 25 [(.t 19)]), p (.alloc 10 [.t (.int .i64 0), .t (.int .i64 0)]), p (.store 2 (.t 10) (.t 20))] none) <|
  .seq (.region [p (.load 21 true 2 (.t 10)), p (.call 22 45 [(.t 21)])] none) <|
  .cond (.t 22) (.seq (.region [p (.build 23 [.t (.int .i64 0), .nilsl 2] []), p (.load 24 true 2 (.t 10)), p (.store 2 (.t 8) (.t 23)), p (.store 2 (.t 9) (.t 24))] (some [0, 0, 1, 7])) <|
    .ret) <|
  .skip) <|
  .seq (.seq (.region [p (.mv 25 (.t 1)), p (.len 26 false (.t 25)), p (.mv 27 (.i .i64 0))] none) <|
  .block 0 <|
   .loop (.filt [1, 3, 4, 6, 8, 9, 25, 26, 27] c20l0)) <|
  .seq (.seq (.region [p (.mv 40 (.t 3)), p (.bin 41 .lss .int (.t 40) (.i .i64 0)), p (.mv 42 (.t 41)), q 42 false (.mv 43 (.t 3)), q 42 false (.bin 44 .gtr .int (.t 43) (.i .i64 1000000)), p (.pick 45 (.t 42) (.b true) (.t 44))] none) <|
  .cond (.t 45) (.seq (.region [p (.build 46 [.t (.int .i64 0), .nilsl 2] []), p (.call 47 48 [(.i .i64 3), (.i .i64 (-2))]), p (.store 2 (.t 8) (.t 46)), p (.store 2 (.t 9) (.t 47))] none) <|
    .ret) <|
  .skip) <|
  .seq (.region [p (.mv 48 (.t 3)), p (.faddr 49 1 (.t 4)), p (.load 50 false 1 (.t 49)), p (.call 51 59 [(.t 50)]), p (.build 52 [.t (.int .i64 0), .nilsl 2] [(0, 1, (.t 48)), (1, 1, (.t 51))]), p (.alloc 13 [.t (.int .i64 0), .nilsl 2]), p (.store 2 (.t 13) (.t 52))] none) <|
  .seq (.seq (.region [p (.mv 53 (.t 1)), p (.len 54 false (.t 53)), p (.mv 55 (.i .i64 0))] none) <|
  .block 2 <|
   .loop (.filt [6, 8, 9, 13, 53, 54, 55] c20l1)) <|
  .seq (.region [p (.faddr 80 1 (.t 13)), p (.load 81 false 1 (.t 80)), p (.mkfn 82 64 [(.t 6)]), p (.call 83 63 [(.t 81), (.t 82)]), p (.faddr 84 1 (.t 13)), p (.store 1 (.t 84) (.t 83))] none) <|
  .seq (.seq (.region [p (.load 85 true 2 (.t 13)), p (.call 86 25 [(.t 85)]), p (.alloc 18 [.t (.int .i64 0), .t (.int .i64 0)]), p (.store 2 (.t 18) (.t 86))] none) <|
  .seq (.region [p (.load 87 true 2 (.t 18)), p (.call 88 45 [(.t 87)])] none) <|
  .cond (.t 88) (.seq (.region [p (.build 89 [.t (.int .i64 0), .nilsl 2] []), p (.load 90 true 2 (.t 18)), p (.store 2 (.t 8) (.t 89)), p (.store 2 (.t 9) (.t 90))] (some [0, 0, 1, 7])) <|
    .ret) <|
  .skip) <|
  .seq (.region [p (.load 91 true 2 (.t 13)), p (.call 92 53 []), p (.store 2 (.t 8) (.t 91)), p (.store 2 (.t 9) (.t 92))] (some [0, 0, 3, 7])) <|
  .ret⟩
theorem ok20 : compF Try.prog 20 = some c20.strip := by kernel_rfl

/-- posthouse/views.Same -/
def c21 : FnC := ⟨2, 26, [.tmp 4, .cell 5 true 2],
  .seq (.region [p (.box 2 2 (.t 0)), p (.box 3 5 (.t 1)), p (.mv 4 (.b false)), p (.alloc 5 [.t (.int .i64 0), .t (.int .i64 0)])] none) <|
  .seq (.seq (.region [p (.load 8 true 2 (.t 2)), p (.call 9 25 [(.t 8)]), p (.alloc 6 [.t (.int .i64 0), .t (.int .i64 0)]), p (.store 2 (.t 6) (.t 9))] none) <|
  .seq (.region [p (.load 10 true 2 (.t 6)), p (.call 11 45 [(.t 10)])] none) <|
  .cond (.t 11) (.seq (.region [p (.load 12 true 2 (.t 6)), p (.mv 4 (.b false)), p (.store 2 (.t 5) (.t 12))] (some [0, 0, 3])) <|
    .ret) <|
  .skip) <|
  .seq (.seq (.region [p (.load 13 true 5 (.t 3)), p (.call 14 54 [(.t 13)]), p (.alloc 7 [.t (.int .i64 0), .t (.int .i64 0)]), p (.store 2 (.t 7) (.t 14))] none) <|
  .seq (.region [p (.load 15 true 2 (.t 7)), p (.call 16 45 [(.t 15)])] none) <|
  .cond (.t 16) (.seq (.region [p (.faddr 17 0 (.t 7)), p (.load 18 false 1 (.t 17)), p (.call 19 48 [(.t 18), (.i .i64 (-5))]), p (.mv 4 (.b false)), p (.store 2 (.t 5) (.t 19))] none) <|
    .ret) <|
  .skip) <|
  .seq (.region [p (.faddr 20 1 (.t 2)), p (.load 21 false 1 (.t 20)), p (.load 22 true 5 (.t 3)), p (.call 23 57 [(.t 22)]), p (.call 24 66 [(.t 21), (.t 23)]), p (.call 25 53 []), p (.mv 4 (.t 24)), p (.store 2 (.t 5) (.t 25))] (some [0, 1, 0, 4, 15, 31, 63, 127])) <|
  .ret⟩
theorem ok21 : compF Try.prog 21 = some c21.strip := by kernel_rfl

/-- posthouse/posthouseref8.BoxFault -/
def c22l0 : AC :=
  .seq (.seq (.region [p (.mv 43 (.t 3)), p (.faddr 44 3 (.t 1)), p (.load 45 false 1 (.t 44)), p (.len 46 false (.t 45)), p (.bin 47 .lss .int (.t 43) (.t 46))] none) <|
  .cond (.t 47) (.skip) <|
  .filt [1, 2] <|
  .exit 0) <|
  .seq (.block 1 <|
   .seq (.region [p (.faddr 50 3 (.t 1)), p (.load 51 false 1 (.t 50)), p (.mv 52 (.t 3)), p (.iaddr 53 6 (.t 51) (.t 52)), p (.load 54 true 6 (.t 53)), p (.alloc 4 [.t (.int .i64 0), .t (.int .i64 0), .t (.int .i64 0), .t (.int .i64 0), .nilsl 2, .nilsl 1]), p (.store 6 (.t 4) (.t 54))] none) <|
   .seq (.seq (.region [p (.faddr 55 0 (.t 4)), p (.load 56 false 1 (.t 55)), p (.bin 57 .lss .int (.t 56) (.i .i64 1)), p (.mv 58 (.t 57)), q 58 false (.faddr 59 0 (.t 4)), q 58 false (.load 60 false 1 (.t 59)), q 58 false (.faddr 61 0 (.t 1)), q 58 false (.load 62 false 1 (.t 61)), q 58 false (.bin 63 .geq .int (.t 60) (.t 62)), p (.pick 64 (.t 58) (.b true) (.t 63)), p (.mv 65 (.t 64)), q 65 false (.faddr 66 1 (.t 4)), q 65 false (.load 67 false 1 (.t 66)), q 65 false (.bin 68 .lss .int (.t 67) (.i .i64 1)), p (.pick 69 (.t 65) (.b true) (.t 68)), p (.mv 70 (.t 69)), q 70 false (.faddr 71 1 (.t 4)), q 70 false (.load 72 false 1 (.t 71)), q 70 false (.faddr 73 1 (.t 1)), q 70 false (.load 74 false 1 (.t 73)), q 70 false (.bin 75 .geq .int (.t 72) (.t 74)), p (.pick 76 (.t 70) (.b true) (.t 75)), p (.mv 77 (.t 76)), q 77 false (.faddr 78 2 (.t 4)), q 77 false (.load 79 false 1 (.t 78)), q 77 false (.call 80 30 [(.t 79), (.i .i64 0), (.i .i64 63)]), q 77 false (.un 81 .not (.t 80)), p (.pick 82 (.t 77) (.b true) (.t 81)), p (.mv 83 (.t 82)), q 83 false (.faddr 84 3 (.t 4)), q 83 false (.load 85 false 1 (.t 84)), q 83 false (.call 86 30 [(.t 85), (.i .i64 (-68719476736)), (.i .i64 68719476736)]), q 83 false (.un 87 .not (.t 86)), p (.pick 88 (.t 83) (.b true) (.t 87))] none) <|
   .cond (.t 88) (.seq (.region [p (.mv 89 (.t 3)), p (.call 90 67 [(.i .i64 3), (.t 89)]), p (.store 2 (.t 2) (.t 90))] none) <|
     .filt [2] <|
     .ret) <|
   .skip) <|
   .seq (.seq (.region [p (.mv 91 (.t 3)), p (.bin 92 .gtr .int (.t 91) (.i .i64 0)), p (.mv 93 (.t 92)), q 93 true (.faddr 94 0 (.t 4)), q 93 true (.load 95 false 1 (.t 94)), q 93 true (.faddr 96 3 (.t 1)), q 93 true (.load 97 false 1 (.t 96)), q 93 true (.mv 98 (.t 3)), q 93 true (.bin 99 .sub .int (.t 98) (.i .i64 1)), q 93 true (.iaddr 100 6 (.t 97) (.t 99)), q 93 true (.faddr 101 0 (.t 100)), q 93 true (.load 102 false 1 (.t 101)), q 93 true (.bin 103 .leq .int (.t 95) (.t 102)), p (.pick 104 (.t 93) (.t 103) (.b false))] (some [0, 1, 3, 7, 15, 7, 39, 7, 135, 487, 999, 2023, 4095, 8191])) <|
   .cond (.t 104) (.seq (.region [p (.mv 105 (.t 3)), p (.call 106 67 [(.i .i64 19), (.t 105)]), p (.store 2 (.t 2) (.t 106))] none) <|
     .filt [2] <|
     .ret) <|
   .skip) <|
   .seq (.region [p (.faddr 107 4 (.t 4)), p (.load 108 true 2 (.t 107)), p (.call 109 68 [(.t 108)]), p (.alloc 5 [.t (.int .i64 0), .t (.int .i64 0)]), p (.store 2 (.t 5) (.t 109))] none) <|
   .seq (.region [p (.faddr 110 0 (.t 5)), p (.load 111 false 1 (.t 110)), p (.bin 112 .neq .int (.t 111) (.i .i64 0))] none) <|
   .cond (.t 112) (.seq (.region [p (.faddr 113 0 (.t 5)), p (.load 114 false 1 (.t 113)), p (.mv 115 (.t 3)), p (.call 116 67 [(.t 114), (.t 115)]), p (.store 2 (.t 2) (.t 116))] none) <|
     .filt [2] <|
     .ret) <|
   .skip) <|
  .region [p (.mv 48 (.t 3)), p (.bin 49 .add .int (.t 48) (.i .i64 1)), p (.mv 3 (.t 49))] none
def c22l1 : AC :=
  .seq (.seq (.region [p (.mv 178 (.t 9)), p (.mv 179 (.t 6)), p (.bin 180 .lss .int (.t 178) (.t 179))] none) <|
  .cond (.t 180) (.skip) <|
  .filt [1, 2, 6, 8] <|
  .exit 4) <|
  .seq (.block 5 <|
   .region [p (.mv 183 (.t 8)), p (.mv 184 (.t 183)), q 184 false (.faddr 185 4 (.t 1)), q 184 false (.load 186 false 1 (.t 185)), q 184 false (.mv 187 (.t 9)), q 184 false (.iaddr 188 2 (.t 186) (.t 187)), q 184 false (.faddr 189 0 (.t 188)), q 184 false (.load 190 false 1 (.t 189)), q 184 false (.faddr 191 0 (.t 7)), q 184 false (.load 192 false 1 (.t 191)), q 184 false (.bin 193 .eql .int (.t 190) (.t 192)), p (.pick 194 (.t 184) (.b true) (.t 193)), p (.mv 8 (.t 194))] (some [0, 1, 3, 7, 3, 31, 63, 127, 3, 259, 1023, 2047, 4095])) <|
  .region [p (.mv 181 (.t 9)), p (.bin 182 .add .int (.t 181) (.i .i64 1)), p (.mv 9 (.t 182))] none
def c22l2 : AC :=
  .seq (.seq (.region [p (.mv 117 (.t 6)), p (.faddr 118 4 (.t 1)), p (.load 119 false 1 (.t 118)), p (.len 120 false (.t 119)), p (.bin 121 .lss .int (.t 117) (.t 120))] none) <|
  .cond (.t 121) (.skip) <|
  .filt [2] <|
  .exit 2) <|
  .seq (.block 3 <|
   .seq (.region [p (.faddr 124 4 (.t 1)), p (.load 125 false 1 (.t 124)), p (.mv 126 (.t 6)), p (.iaddr 127 2 (.t 125) (.t 126)), p (.load 128 true 2 (.t 127)), p (.alloc 7 [.t (.int .i64 0), .t (.int .i64 0)]), p (.store 2 (.t 7) (.t 128))] none) <|
   .seq (.seq (.region [p (.faddr 129 0 (.t 7)), p (.load 130 false 1 (.t 129)), p (.bin 131 .lss .int (.t 130) (.i .i64 1)), p (.mv 132 (.t 131)), q 132 false (.faddr 133 0 (.t 7)), q 132 false (.load 134 false 1 (.t 133)), q 132 false (.faddr 135 0 (.t 1)), q 132 false (.load 136 false 1 (.t 135)), q 132 false (.bin 137 .geq .int (.t 134) (.t 136)), p (.pick 138 (.t 132) (.b true) (.t 137)), p (.mv 139 (.t 138)), q 139 false (.faddr 140 1 (.t 7)), q 139 false (.load 141 false 1 (.t 140)), q 139 false (.faddr 142 2 (.t 1)), q 139 false (.load 143 false 1 (.t 142)), q 139 false (.bin 144 .leq .int (.t 141) (.t 143)), p (.pick 145 (.t 139) (.b true) (.t 144)), p (.mv 146 (.t 145)), q 146 false (.faddr 147 1 (.t 7)), q 146 false (.load 148 false 1 (.t 147)), q 146 false (.faddr 149 1 (.t 1)), q 146 false (.load 150 false 1 (.t 149)), q 146 false (.bin 151 .geq .int (.t 148) (.t 150)), p (.pick 152 (.t 146) (.b true) (.t 151))] none) <|
   .cond (.t 152) (.seq (.region [p (.mv 153 (.t 6)), p (.bin 154 .add .int (.i .i64 1000) (.t 153)), p (.call 155 67 [(.i .i64 3), (.t 154)]), p (.store 2 (.t 2) (.t 155))] none) <|
     .filt [2] <|
     .ret) <|
   .skip) <|
   .seq (.seq (.region [p (.mv 156 (.t 6)), p (.bin 157 .gtr .int (.t 156) (.i .i64 0)), p (.mv 158 (.t 157)), q 158 true (.faddr 159 1 (.t 7)), q 158 true (.load 160 false 1 (.t 159)), q 158 true (.faddr 161 4 (.t 1)), q 158 true (.load 162 false 1 (.t 161)), q 158 true (.mv 163 (.t 6)), q 158 true (.bin 164 .sub .int (.t 163) (.i .i64 1)), q 158 true (.iaddr 165 2 (.t 162) (.t 164)), q 158 true (.faddr 166 1 (.t 165)), q 158 true (.load 167 false 1 (.t 166)), q 158 true (.bin 168 .leq .int (.t 160) (.t 167)), p (.pick 169 (.t 158) (.t 168) (.b false))] (some [0, 1, 3, 7, 15, 7, 39, 7, 135, 487, 999, 2023, 4095, 8191])) <|
   .cond (.t 169) (.seq (.region [p (.mv 170 (.t 6)), p (.bin 171 .add .int (.i .i64 1000) (.t 170)), p (.call 172 67 [(.i .i64 19), (.t 171)]), p (.store 2 (.t 2) (.t 172))] none) <|
     .filt [2] <|
     .ret) <|
   .skip) <|
   .seq (.region [p (.load 173 true 5 (.t 1)), p (.faddr 174 0 (.t 7)), p (.load 175 false 1 (.t 174)), p (.call 176 69 [(.t 173), (.t 175)]), p (.bin 177 .geq .int (.t 176) (.i .i64 0)), p (.mv 8 (.t 177))] none) <|
   .seq (.seq (.region [p (.mv 9 (.i .i64 0))] none) <|
   .block 4 <|
    .loop (.filt [1, 2, 6, 7, 8, 9] c22l1)) <|
   .seq (.region [p (.mv 195 (.t 8))] none) <|
   .cond (.t 195) (.seq (.region [p (.mv 196 (.t 6)), p (.bin 197 .add .int (.i .i64 1000) (.t 196)), p (.call 198 67 [(.i .i64 7), (.t 197)]), p (.store 2 (.t 2) (.t 198))] none) <|
     .filt [2] <|
     .ret) <|
   .skip) <|
  .region [p (.mv 122 (.t 6)), p (.bin 123 .add .int (.t 122) (.i .i64 1)), p (.mv 6 (.t 123))] none
def c22 : FnC := ⟨1, 200, [.cell 2 true 2],
  .seq (.region [p (.box 1 5 (.t 0)), p (.alloc 2 [.t (.int .i64 0), .t (.int .i64 0)])] none) <|
  .seq (.seq (.region [p (.faddr 10 3 (.t 1)), p (.load 11 false 1 (.t 10)), p (.len 12 false (.t 11)), p (.bin 13 .gtr .int (.t 12) (.i .i64 200))] none) <|
  .cond (.t 13) (.seq (.region [p (.call 14 67 [(.i .i64 2), (.i .i64 (-1))]), p (.store 2 (.t 2) (.t 14))] none) <|
    .ret) <|
  .skip) <|
  .seq (.seq (.region [p (.faddr 15 4 (.t 1)), p (.load 16 false 1 (.t 15)), p (.len 17 false (.t 16)), p (.bin 18 .gtr .int (.t 17) (.i .i64 400))] none) <|
  .cond (.t 18) (.seq (.region [p (.call 19 67 [(.i .i64 2), (.i .i64 (-2))]), p (.store 2 (.t 2) (.t 19))] none) <|
    .ret) <|
  .skip) <|
  .seq (.seq (.region [p (.faddr 20 0 (.t 1)), p (.load 21 false 1 (.t 20)), p (.call 22 30 [(.t 21), (.i .i64 1), (.i .i64 1000000)]), p (.un 23 .not (.t 22)), p (.mv 24 (.t 23)), q 24 false (.faddr 25 1 (.t 1)), q 24 false (.load 26 false 1 (.t 25)), q 24 false (.call 27 30 [(.t 26), (.i .i64 1), (.i .i64 1000000)]), q 24 false (.un 28 .not (.t 27)), p (.pick 29 (.t 24) (.b true) (.t 28)), p (.mv 30 (.t 29)), q 30 false (.faddr 31 2 (.t 1)), q 30 false (.load 32 false 1 (.t 31)), q 30 false (.bin 33 .lss .int (.t 32) (.i .i64 0)), p (.pick 34 (.t 30) (.b true) (.t 33)), p (.mv 35 (.t 34)), q 35 false (.faddr 36 2 (.t 1)), q 35 false (.load 37 false 1 (.t 36)), q 35 false (.faddr 38 1 (.t 1)), q 35 false (.load 39 false 1 (.t 38)), q 35 false (.bin 40 .geq .int (.t 37) (.t 39)), p (.pick 41 (.t 35) (.b true) (.t 40))] none) <|
  .cond (.t 41) (.seq (.region [p (.call 42 67 [(.i .i64 3), (.i .i64 (-3))]), p (.store 2 (.t 2) (.t 42))] none) <|
    .ret) <|
  .skip) <|
  .seq (.seq (.region [p (.mv 3 (.i .i64 0))] none) <|
  .block 0 <|
   .loop (.filt [1, 2, 3] c22l0)) <|
  .seq (.seq (.region [p (.mv 6 (.i .i64 0))] none) <|
  .block 2 <|
   .loop (.filt [1, 2, 6] c22l2)) <|
  .seq (.region [p (.build 199 [.t (.int .i64 0), .t (.int .i64 0)] []), p (.store 2 (.t 2) (.t 199))] none) <|
  .ret⟩
theorem ok22 : compF Try.prog 22 = some c22.strip := by kernel_rfl

/-- posthouse/posthouseref8.ViewFault -/
def c23l0 : AC :=
  .seq (.seq (.region [p (.mv 14 (.t 3)), p (.faddr 15 1 (.t 1)), p (.load 16 false 1 (.t 15)), p (.len 17 false (.t 16)), p (.bin 18 .lss .int (.t 14) (.t 17))] none) <|
  .cond (.t 18) (.skip) <|
  .filt [2] <|
  .exit 0) <|
  .seq (.block 1 <|
   .seq (.seq (.region [p (.faddr 21 1 (.t 1)), p (.load 22 false 1 (.t 21)), p (.mv 23 (.t 3)), p (.iaddr 24 2 (.t 22) (.t 23)), p (.faddr 25 0 (.t 24)), p (.load 26 false 1 (.t 25)), p (.call 27 30 [(.t 26), (.i .i64 1), (.i .i64 1000000)]), p (.un 28 .not (.t 27)), p (.mv 29 (.t 28)), q 29 false (.faddr 30 1 (.t 1)), q 29 false (.load 31 false 1 (.t 30)), q 29 false (.mv 32 (.t 3)), q 29 false (.iaddr 33 2 (.t 31) (.t 32)), q 29 false (.faddr 34 1 (.t 33)), q 29 false (.load 35 false 1 (.t 34)), q 29 false (.call 36 30 [(.t 35), (.i .i64 0), (.i .i64 63)]), q 29 false (.un 37 .not (.t 36)), p (.pick 38 (.t 29) (.b true) (.t 37))] none) <|
   .cond (.t 38) (.seq (.region [p (.mv 39 (.t 3)), p (.call 40 67 [(.i .i64 3), (.t 39)]), p (.store 2 (.t 2) (.t 40))] none) <|
     .filt [2] <|
     .ret) <|
   .skip) <|
   .seq (.region [p (.mv 41 (.t 3)), p (.bin 42 .gtr .int (.t 41) (.i .i64 0)), p (.mv 43 (.t 42)), q 43 true (.faddr 44 1 (.t 1)), q 43 true (.load 45 false 1 (.t 44)), q 43 true (.mv 46 (.t 3)), q 43 true (.iaddr 47 2 (.t 45) (.t 46)), q 43 true (.faddr 48 0 (.t 47)), q 43 true (.load 49 false 1 (.t 48)), q 43 true (.faddr 50 1 (.t 1)), q 43 true (.load 51 false 1 (.t 50)), q 43 true (.mv 52 (.t 3)), q 43 true (.bin 53 .sub .int (.t 52) (.i .i64 1)), q 43 true (.iaddr 54 2 (.t 51) (.t 53)), q 43 true (.faddr 55 0 (.t 54)), q 43 true (.load 56 false 1 (.t 55)), q 43 true (.bin 57 .leq .int (.t 49) (.t 56)), p (.pick 58 (.t 43) (.t 57) (.b false))] (some [0, 1, 3, 7, 15, 7, 63, 127, 255, 7, 519, 7, 2055, 7687, 15879, 32263, 65535, 131071])) <|
   .cond (.t 58) (.seq (.region [p (.mv 59 (.t 3)), p (.call 60 67 [(.i .i64 19), (.t 59)]), p (.store 2 (.t 2) (.t 60))] none) <|
     .filt [2] <|
     .ret) <|
   .skip) <|
  .region [p (.mv 19 (.t 3)), p (.bin 20 .add .int (.t 19) (.i .i64 1)), p (.mv 3 (.t 20))] none
def c23 : FnC := ⟨1, 62, [.cell 2 true 2],
  .seq (.region [p (.box 1 2 (.t 0)), p (.alloc 2 [.t (.int .i64 0), .t (.int .i64 0)])] none) <|
  .seq (.seq (.region [p (.faddr 4 1 (.t 1)), p (.load 5 false 1 (.t 4)), p (.len 6 false (.t 5)), p (.bin 7 .gtr .int (.t 6) (.i .i64 600))] none) <|
  .cond (.t 7) (.seq (.region [p (.call 8 67 [(.i .i64 2), (.i .i64 (-1))]), p (.store 2 (.t 2) (.t 8))] none) <|
    .ret) <|
  .skip) <|
  .seq (.seq (.region [p (.faddr 9 0 (.t 1)), p (.load 10 false 1 (.t 9)), p (.call 11 30 [(.t 10), (.i .i64 0), (.i .i64 1000000)]), p (.un 12 .not (.t 11))] none) <|
  .cond (.t 12) (.seq (.region [p (.call 13 67 [(.i .i64 3), (.i .i64 (-1))]), p (.store 2 (.t 2) (.t 13))] none) <|
    .ret) <|
  .skip) <|
  .seq (.seq (.region [p (.mv 3 (.i .i64 0))] none) <|
  .block 0 <|
   .loop (.filt [1, 2, 3] c23l0)) <|
  .seq (.region [p (.build 61 [.t (.int .i64 0), .t (.int .i64 0)] []), p (.store 2 (.t 2) (.t 61))] none) <|
  .ret⟩
theorem ok23 : compF Try.prog 23 = some c23.strip := by kernel_rfl

/-- posthouse/posthouselaw8.viewsExample -/
def c24 : FnC := ⟨0, 74, [.tmp 0],
  .seq (.region [p (.mv 0 (.b false))] none) <|
  .seq (.region [p (.call 8 43 []), p (.call 9 19 [(.t 8)]), p (.mv 7 (.t 9)), p (.ext 10 (.t 7) 0), p (.ext 11 (.t 7) 1), p (.alloc 1 [.t (.int .i64 0), .nilsl 2]), p (.alloc 2 [.t (.int .i64 0), .t (.int .i64 0)]), p (.store 2 (.t 1) (.t 10)), p (.store 2 (.t 2) (.t 11))] none) <|
  .seq (.region [p (.load 13 true 2 (.t 1)), p (.build 14 [.t (.int .i64 0), .t (.int .i64 0)] [(0, 1, (.i .i64 7)), (1, 1, (.i .i64 2))]), p (.build 15 [.t (.int .i64 0), .t (.int .i64 0)] [(0, 1, (.i .i64 8))]), p (.bsl 16 2 2 [(.int .i64 0), (.int .i64 0)] [(0, (.t 14)), (1, (.t 15))]), p (.bsl 17 1 1 [(.int .i64 0)] [(0, (.i .i64 8))]), p (.call 18 20 [(.t 13), (.t 16), (.t 17), (.i .i64 9)]), p (.mv 12 (.t 18)), p (.ext 19 (.t 12) 0), p (.ext 20 (.t 12) 1), p (.alloc 3 [.t (.int .i64 0), .nilsl 2]), p (.alloc 4 [.t (.int .i64 0), .t (.int .i64 0)]), p (.store 2 (.t 3) (.t 19)), p (.store 2 (.t 4) (.t 20))] none) <|
  .seq (.region [p (.load 22 true 2 (.t 1)), p (.call 23 43 []), p (.call 24 21 [(.t 22), (.t 23)]), p (.mv 21 (.t 24)), p (.ext 25 (.t 21) 0), p (.ext 26 (.t 21) 1), p (.alloc 6 [.t (.int .i64 0), .t (.int .i64 0)]), p (.mv 5 (.t 25)), p (.store 2 (.t 6) (.t 26))] (some [0, 0, 3, 7, 15, 15, 0, 95, 255])) <|
  .seq (.region [p (.faddr 27 0 (.t 2)), p (.load 28 false 1 (.t 27)), p (.bin 29 .eql .int (.t 28) (.i .i64 0)), p (.mv 30 (.t 29)), q 30 true (.faddr 31 0 (.t 1)), q 30 true (.load 32 false 1 (.t 31)), q 30 true (.bin 33 .eql .int (.t 32) (.i .i64 5)), p (.pick 34 (.t 30) (.t 33) (.b false)), p (.mv 35 (.t 34)), q 35 true (.faddr 36 1 (.t 1)), q 35 true (.load 37 false 1 (.t 36)), q 35 true (.build 38 [.t (.int .i64 0), .t (.int .i64 0)] [(0, 1, (.i .i64 2)), (1, 1, (.i .i64 1))]), q 35 true (.bsl 39 2 1 [(.int .i64 0), (.int .i64 0)] [(0, (.t 38))]), q 35 true (.call 40 29 [(.t 37), (.t 39)]), p (.pick 41 (.t 35) (.t 40) (.b false)), p (.mv 42 (.t 41)), q 42 true (.faddr 43 0 (.t 4)), q 42 true (.load 44 false 1 (.t 43)), q 42 true (.bin 45 .eql .int (.t 44) (.i .i64 0)), p (.pick 46 (.t 42) (.t 45) (.b false)), p (.mv 47 (.t 46)), q 47 true (.faddr 48 0 (.t 3)), q 47 true (.load 49 false 1 (.t 48)), q 47 true (.bin 50 .eql .int (.t 49) (.i .i64 9)), p (.pick 51 (.t 47) (.t 50) (.b false)), p (.mv 52 (.t 51)), q 52 true (.faddr 53 1 (.t 3)), q 52 true (.load 54 false 1 (.t 53)), q 52 true (.build 55 [.t (.int .i64 0), .t (.int .i64 0)] [(0, 1, (.i .i64 2)), (1, 1, (.i .i64 1))]), q 52 true (.build 56 [.t (.int .i64 0), .t (.int .i64 0)] [(0, 1, (.i .i64 7)), (1, 1, (.i .i64 2))]), q 52 true (.bsl 57 2 2 [(.int .i64 0), (.int .i64 0)] [(0, (.t 55)), (1, (.t 56))]), q 52 true (.call 58 29 [(.t 54), (.t 57)]), p (.pick 59 (.t 52) (.t 58) (.b false)), p (.mv 60 (.t 59)), q 60 true (.faddr 61 0 (.t 6)), q 60 true (.load 62 false 1 (.t 61)), q 60 true (.bin 63 .eql .int (.t 62) (.i .i64 0)), p (.pick 64 (.t 60) (.t 63) (.b false)), p (.mv 65 (.t 64)), q 65 true (.mv 66 (.t 5)), p (.pick 67 (.t 65) (.t 66) (.b false)), p (.mv 68 (.t 67)), q 68 true (.load 69 true 2 (.t 1)), q 68 true (.call 70 25 [(.t 69)]), q 68 true (.fld 71 false 0 1 (.t 70)), q 68 true (.bin 72 .eql .int (.t 71) (.i .i64 0)), p (.pick 73 (.t 68) (.t 72) (.b false)), p (.mv 0 (.t 73))] none) <|
  .ret⟩
theorem ok24 : compF Try.prog 24 = some c24.strip := by kernel_rfl

/-- posthouse/views.Validate -/
def c25l0 : AC :=
  .seq (.region [p (.bin 23 .lss .int (.t 22) (.t 21))] none) <|
  .seq (.cond (.t 23) (.skip) <|
  .filt [0, 2] <|
  .exit 0) <|
  .seq (.block 1 <|
   .seq (.region [p (.mv 24 (.t 22)), p (.iaddr 25 2 (.t 20) (.t 22)), p (.load 26 true 2 (.t 25)), p (.alloc 4 [.t (.int .i64 0), .t (.int .i64 0)]), p (.mv 3 (.t 24)), p (.store 2 (.t 4) (.t 26))] none) <|
   .seq (.seq (.region [p (.load 27 true 2 (.t 4)), p (.call 28 58 [(.t 27)]), p (.un 29 .not (.t 28))] none) <|
   .cond (.t 29) (.seq (.region [p (.mv 30 (.t 3)), p (.call 31 48 [(.i .i64 3), (.t 30)]), p (.store 2 (.t 2) (.t 31))] none) <|
     .filt [0, 2] <|
     .ret) <|
   .skip) <|
   .seq (.region [p (.mv 32 (.t 3)), p (.bin 33 .gtr .int (.t 32) (.i .i64 0)), p (.mv 34 (.t 33)), q 34 true (.faddr 35 0 (.t 4)), q 34 true (.load 36 false 1 (.t 35)), q 34 true (.faddr 37 1 (.t 1)), q 34 true (.load 38 false 1 (.t 37)), q 34 true (.mv 39 (.t 3)), q 34 true (.bin 40 .sub .int (.t 39) (.i .i64 1)), q 34 true (.iaddr 41 2 (.t 38) (.t 40)), q 34 true (.faddr 42 0 (.t 41)), q 34 true (.load 43 false 1 (.t 42)), q 34 true (.bin 44 .leq .int (.t 36) (.t 43)), p (.pick 45 (.t 34) (.t 44) (.b false))] (some [0, 1, 3, 7, 15, 7, 39, 7, 135, 487, 999, 2023, 4095, 8191])) <|
   .cond (.t 45) (.seq (.region [p (.mv 46 (.t 3)), p (.call 47 48 [(.i .i64 19), (.t 46)]), p (.store 2 (.t 2) (.t 47))] none) <|
     .filt [0, 2] <|
     .ret) <|
   .skip) <|
  .region [p (.bin 48 .add .int (.t 22) (.i .i64 1)), p (.mv 22 (.t 48))] none
def c25 : FnC := ⟨1, 50, [.cell 2 true 2],
  .seq (.region [p (.box 1 2 (.t 0)), p (.alloc 2 [.t (.int .i64 0), .t (.int .i64 0)])] none) <|
  .seq (.seq (.region [p (.faddr 5 1 (.t 1)), p (.load 6 false 1 (.t 5)), p (.len 7 false (.t 6)), p (.bin 8 .gtr .int (.t 7) (.i .i64 600))] none) <|
  .cond (.t 8) (.seq (.region [p (.call 9 48 [(.i .i64 2), (.i .i64 (-1))]), p (.store 2 (.t 2) (.t 9))] none) <|
    .ret) <|
  .skip) <|
  .seq (.seq (.region [p (.faddr 10 0 (.t 1)), p (.load 11 false 1 (.t 10)), p (.bin 12 .lss .int (.t 11) (.i .i64 0)), p (.mv 13 (.t 12)), q 13 false (.faddr 14 0 (.t 1)), q 13 false (.load 15 false 1 (.t 14)), q 13 false (.bin 16 .gtr .int (.t 15) (.i .i64 1000000)), p (.pick 17 (.t 13) (.b true) (.t 16))] none) <|
  .cond (.t 17) (.seq (.region [p (.call 18 48 [(.i .i64 3), (.i .i64 (-1))]), p (.store 2 (.t 2) (.t 18))] none) <|
    .ret) <|
  .skip) <|
  .seq (.seq (.region [p (.faddr 19 1 (.t 1)), p (.load 20 false 1 (.t 19)), p (.len 21 false (.t 20)), p (.mv 22 (.i .i64 0))] none) <|
  .block 0 <|
   .loop (.filt [0, 1, 2, 20, 21, 22] c25l0)) <|
  .seq (.region [p (.call 49 53 []), p (.store 2 (.t 2) (.t 49))] none) <|
  .ret⟩
theorem ok25 : compF Try.prog 25 = some c25.strip := by kernel_rfl

/-- posthouse/posthouseref8.ViewOf -/
def c26l0 : AC :=
  .seq (.seq (.region [p (.mv 8 (.t 4)), p (.faddr 9 3 (.t 1)), p (.load 10 false 1 (.t 9)), p (.len 11 false (.t 10)), p (.bin 12 .lss .int (.t 8) (.t 11))] none) <|
  .cond (.t 12) (.skip) <|
  .filt [2, 3] <|
  .exit 0) <|
  .seq (.block 1 <|
   .region [p (.faddr 15 1 (.t 3)), p (.load 16 false 1 (.t 15)), p (.faddr 17 3 (.t 1)), p (.load 18 false 1 (.t 17)), p (.mv 19 (.t 4)), p (.iaddr 20 6 (.t 18) (.t 19)), p (.faddr 21 0 (.t 20)), p (.load 22 false 1 (.t 21)), p (.faddr 23 3 (.t 1)), p (.load 24 false 1 (.t 23)), p (.mv 25 (.t 4)), p (.iaddr 26 6 (.t 24) (.t 25)), p (.faddr 27 2 (.t 26)), p (.load 28 false 1 (.t 27)), p (.build 29 [.t (.int .i64 0), .t (.int .i64 0)] [(0, 1, (.t 22)), (1, 1, (.t 28))]), p (.bsl 30 2 1 [(.int .i64 0), (.int .i64 0)] [(0, (.t 29))]), p (.app 31 2 16 (.t 16) (.t 30)), p (.faddr 32 1 (.t 3)), p (.store 1 (.t 32) (.t 31))] (some [0, 1, 0, 4, 0, 28, 60, 124, 0, 256, 0, 1792, 3840, 7936, 16380, 32764, 65535, 131071, 262143])) <|
  .region [p (.mv 13 (.t 4)), p (.bin 14 .add .int (.t 13) (.i .i64 1)), p (.mv 4 (.t 14))] none
def c26 : FnC := ⟨1, 34, [.cell 2 true 2],
  .seq (.region [p (.box 1 5 (.t 0)), p (.alloc 2 [.t (.int .i64 0), .nilsl 2])] none) <|
  .seq (.region [p (.faddr 5 1 (.t 1)), p (.load 6 false 1 (.t 5)), p (.build 7 [.t (.int .i64 0), .nilsl 2] [(0, 1, (.t 6))]), p (.alloc 3 [.t (.int .i64 0), .nilsl 2]), p (.store 2 (.t 3) (.t 7))] none) <|
  .seq (.seq (.region [p (.mv 4 (.i .i64 0))] none) <|
  .block 0 <|
   .loop (.filt [1, 2, 3, 4] c26l0)) <|
  .seq (.region [p (.load 33 true 2 (.t 3)), p (.store 2 (.t 2) (.t 33))] none) <|
  .ret⟩
theorem ok26 : compF Try.prog 26 = some c26.strip := by kernel_rfl

/-- posthouse/posthouseref8.SameView -/
def c27 : FnC := ⟨2, 17, [.tmp 4],
  .seq (.region [p (.box 2 2 (.t 0)), p (.box 3 2 (.t 1)), p (.mv 4 (.b false))] none) <|
  .seq (.region [p (.faddr 5 0 (.t 2)), p (.load 6 false 1 (.t 5)), p (.faddr 7 0 (.t 3)), p (.load 8 false 1 (.t 7)), p (.bin 9 .eql .int (.t 6) (.t 8)), p (.mv 10 (.t 9)), q 10 true (.faddr 11 1 (.t 2)), q 10 true (.load 12 false 1 (.t 11)), q 10 true (.faddr 13 1 (.t 3)), q 10 true (.load 14 false 1 (.t 13)), q 10 true (.call 15 29 [(.t 12), (.t 14)]), p (.pick 16 (.t 10) (.t 15) (.b false)), p (.mv 4 (.t 16))] none) <|
  .ret⟩
theorem ok27 : compF Try.prog 27 = some c27.strip := by kernel_rfl

/-- posthouse/posthouseref7.At -/
def c28 : FnC := ⟨2, 8, [.cell 4 true 2],
  .seq (.region [p (.alloc 4 [.t (.int .i64 0), .t (.int .i64 0)])] none) <|
  .seq (.region [p (.mv 5 (.t 0)), p (.mv 6 (.t 1)), p (.build 7 [.t (.int .i64 0), .t (.int .i64 0)] [(0, 1, (.t 5)), (1, 1, (.t 6))]), p (.store 2 (.t 4) (.t 7))] none) <|
  .ret⟩
theorem ok28 : compF Try.prog 28 = some c28.strip := by kernel_rfl

/-- posthouse/posthouseref8.SameSeen -/
def c29l0 : AC :=
  .seq (.seq (.region [p (.mv 11 (.t 5)), p (.mv 12 (.t 0)), p (.len 13 false (.t 12)), p (.bin 14 .lss .int (.t 11) (.t 13))] none) <|
  .cond (.t 14) (.skip) <|
  .filt [] <|
  .exit 0) <|
  .seq (.block 1 <|
   .seq (.region [p (.mv 17 (.t 0)), p (.mv 18 (.t 5)), p (.iaddr 19 2 (.t 17) (.t 18)), p (.load 20 true 2 (.t 19)), p (.mv 21 (.t 1)), p (.mv 22 (.t 5)), p (.iaddr 23 2 (.t 21) (.t 22)), p (.load 24 true 2 (.t 23)), p (.bin 25 .neq (.agg [.i, .i]) (.t 20) (.t 24))] (some [0, 0, 3, 7, 0, 0, 48, 112, 255])) <|
   .cond (.t 25) (.seq (.region [p (.mv 4 (.b false))] none) <|
     .filt [4] <|
     .ret) <|
   .skip) <|
  .region [p (.mv 15 (.t 5)), p (.bin 16 .add .int (.t 15) (.i .i64 1)), p (.mv 5 (.t 16))] none
def c29 : FnC := ⟨2, 26, [.tmp 4],
  .seq (.region [p (.mv 4 (.b false))] none) <|
  .seq (.seq (.region [p (.mv 6 (.t 0)), p (.len 7 false (.t 6)), p (.mv 8 (.t 1)), p (.len 9 false (.t 8)), p (.bin 10 .neq .int (.t 7) (.t 9))] none) <|
  .cond (.t 10) (.seq (.region [p (.mv 4 (.b false))] none) <|
    .ret) <|
  .skip) <|
  .seq (.seq (.region [p (.mv 5 (.i .i64 0))] none) <|
  .block 0 <|
   .loop (.filt [0, 1, 5] c29l0)) <|
  .seq (.region [p (.mv 4 (.b true))] none) <|
  .ret⟩
theorem ok29 : compF Try.prog 29 = some c29.strip := by kernel_rfl

/-- posthouse/posthouseref7.In -/
def c30 : FnC := ⟨3, 15, [.tmp 6],
  .seq (.region [p (.mv 6 (.b false))] none) <|
  .seq (.region [p (.mv 7 (.t 0)), p (.mv 8 (.t 1)), p (.bin 9 .geq .int (.t 7) (.t 8)), p (.mv 10 (.t 9)), q 10 true (.mv 11 (.t 0)), q 10 true (.mv 12 (.t 2)), q 10 true (.bin 13 .leq .int (.t 11) (.t 12)), p (.pick 14 (.t 10) (.t 13) (.b false)), p (.mv 6 (.t 14))] none) <|
  .ret⟩
theorem ok30 : compF Try.prog 30 = some c30.strip := by kernel_rfl

/-- posthouse/posthouseref8.Updated -/
def c31l0 : AC :=
  .seq (.seq (.region [p (.mv 21 (.t 13)), p (.mv 22 (.t 9)), p (.len 23 false (.t 22)), p (.bin 24 .lss .int (.t 21) (.t 23))] none) <|
  .cond (.t 24) (.skip) <|
  .filt [2, 8, 9, 10, 12] <|
  .exit 2) <|
  .seq (.block 3 <|
   .seq (.region [p (.mv 27 (.t 9)), p (.mv 28 (.t 13)), p (.iaddr 29 2 (.t 27) (.t 28)), p (.faddr 30 0 (.t 29)), p (.load 31 false 1 (.t 30)), p (.mv 32 (.t 11)), p (.bin 33 .gtr .int (.t 31) (.t 32)), p (.mv 34 (.t 33)), q 34 true (.mv 35 (.t 12)), q 34 true (.bin 36 .lss .int (.t 35) (.i .i64 0)), q 34 true (.mv 37 (.t 36)), q 37 false (.mv 38 (.t 9)), q 37 false (.mv 39 (.t 13)), q 37 false (.iaddr 40 2 (.t 38) (.t 39)), q 37 false (.faddr 41 0 (.t 40)), q 37 false (.load 42 false 1 (.t 41)), q 37 false (.mv 43 (.t 9)), q 37 false (.mv 44 (.t 12)), q 37 false (.iaddr 45 2 (.t 43) (.t 44)), q 37 false (.faddr 46 0 (.t 45)), q 37 false (.load 47 false 1 (.t 46)), q 37 false (.bin 48 .leq .int (.t 42) (.t 47)), q 34 true (.pick 49 (.t 37) (.b true) (.t 48)), p (.pick 50 (.t 34) (.t 49) (.b false))] (some [0, 0, 3, 7, 15, 0, 63, 127, 255, 511, 1023, 2047, 2047, 8191, 16383, 32767, 2047, 2047, 198655, 460799, 985087, 2097151, 4194303, 8388607])) <|
   .cond (.t 50) (.region [p (.mv 51 (.t 13)), p (.mv 12 (.t 51))] none) <|
   .skip) <|
  .region [p (.mv 25 (.t 13)), p (.bin 26 .add .int (.t 25) (.i .i64 1)), p (.mv 13 (.t 26))] none
def c31l1 : AC :=
  .block 1 <|
   .seq (.region [p (.mv 12 (.i .i64 (-1)))] none) <|
   .seq (.seq (.region [p (.mv 13 (.i .i64 0))] none) <|
   .block 2 <|
    .loop (.filt [2, 8, 9, 10, 11, 12, 13] c31l0)) <|
   .seq (.seq (.region [p (.mv 52 (.t 12)), p (.bin 53 .lss .int (.t 52) (.i .i64 0))] none) <|
   .cond (.t 53) (.seq (.region [p (.load 54 true 2 (.t 10)), p (.store 2 (.t 8) (.t 54))] none) <|
     .filt [8] <|
     .ret) <|
   .skip) <|
   .seq (.region [p (.mv 55 (.t 9)), p (.mv 56 (.t 12)), p (.iaddr 57 2 (.t 55) (.t 56)), p (.faddr 58 0 (.t 57)), p (.load 59 false 1 (.t 58)), p (.mv 11 (.t 59))] none) <|
   .seq (.region [p (.mv 60 (.t 2)), p (.mv 61 (.t 11)), p (.call 62 37 [(.t 60), (.t 61)]), p (.un 63 .not (.t 62))] none) <|
   .cond (.t 63) (.region [p (.faddr 64 1 (.t 10)), p (.load 65 false 1 (.t 64)), p (.mv 66 (.t 9)), p (.mv 67 (.t 12)), p (.iaddr 68 2 (.t 66) (.t 67)), p (.load 69 true 2 (.t 68)), p (.bsl 70 2 1 [(.int .i64 0), (.int .i64 0)] [(0, (.t 69))]), p (.app 71 2 16 (.t 65) (.t 70)), p (.faddr 72 1 (.t 10)), p (.store 1 (.t 72) (.t 71))] (some [0, 1, 0, 0, 12, 28, 60, 127, 255, 511])) <|
   .skip
def c31 : FnC := ⟨4, 73, [.cell 8 true 2],
  .seq (.region [p (.box 4 2 (.t 0)), p (.alloc 8 [.t (.int .i64 0), .nilsl 2])] none) <|
  .seq (.region [p (.faddr 14 1 (.t 4)), p (.load 15 false 1 (.t 14)), p (.app 16 2 16 (.nil 2) (.t 15)), p (.mv 17 (.t 1)), p (.app 18 2 16 (.t 16) (.t 17)), p (.mv 9 (.t 18))] none) <|
  .seq (.region [p (.mv 19 (.t 3)), p (.build 20 [.t (.int .i64 0), .nilsl 2] [(0, 1, (.t 19))]), p (.alloc 10 [.t (.int .i64 0), .nilsl 2]), p (.store 2 (.t 10) (.t 20))] none) <|
  .seq (.region [p (.mv 11 (.i .i64 0))] none) <|
  .block 0 <|
   .loop (.filt [2, 8, 9, 10, 11] c31l1)⟩
theorem ok31 : compF Try.prog 31 = some c31.strip := by kernel_rfl

/-- posthouse/resync.Since -/
def c32 : FnC := ⟨2, 38, [.tmp 4, .tmp 5, .cell 6 true 2],
  .seq (.region [p (.box 2 5 (.t 0)), p (.mv 4 (.nil 2)), p (.mv 5 (.nil 1)), p (.alloc 6 [.t (.int .i64 0), .t (.int .i64 0)])] none) <|
  .seq (.seq (.region [p (.load 10 true 5 (.t 2)), p (.call 11 54 [(.t 10)]), p (.alloc 7 [.t (.int .i64 0), .t (.int .i64 0)]), p (.store 2 (.t 7) (.t 11))] none) <|
  .seq (.region [p (.load 12 true 2 (.t 7)), p (.call 13 45 [(.t 12)])] none) <|
  .cond (.t 13) (.seq (.region [p (.load 14 true 2 (.t 7)), p (.mv 4 (.nil 2)), p (.mv 5 (.nil 1)), p (.store 2 (.t 6) (.t 14))] (some [0, 0, 2, 7])) <|
    .ret) <|
  .skip) <|
  .seq (.seq (.region [p (.mv 15 (.t 1)), p (.bin 16 .lss .int (.t 15) (.i .i64 1)), p (.mv 17 (.t 16)), q 17 false (.mv 18 (.t 1)), q 17 false (.faddr 19 1 (.t 2)), q 17 false (.load 20 false 1 (.t 19)), q 17 false (.bin 21 .gtr .int (.t 18) (.t 20)), p (.pick 22 (.t 17) (.b true) (.t 21))] none) <|
  .cond (.t 22) (.seq (.region [p (.call 23 48 [(.i .i64 3), (.i .i64 (-4))]), p (.mv 4 (.nil 2)), p (.mv 5 (.nil 1)), p (.store 2 (.t 6) (.t 23))] none) <|
    .ret) <|
  .skip) <|
  .seq (.seq (.region [p (.mv 24 (.t 1)), p (.faddr 25 2 (.t 2)), p (.load 26 false 1 (.t 25)), p (.bin 27 .leq .int (.t 24) (.t 26))] none) <|
  .cond (.t 27) (.seq (.region [p (.call 28 48 [(.i .i64 8), (.i .i64 (-4))]), p (.mv 4 (.nil 2)), p (.mv 5 (.nil 1)), p (.store 2 (.t 6) (.t 28))] none) <|
    .ret) <|
  .skip) <|
  .seq (.region [p (.load 30 true 5 (.t 2)), p (.mv 31 (.t 1)), p (.call 32 70 [(.t 30), (.t 31)]), p (.mv 29 (.t 32)), p (.ext 33 (.t 29) 0), p (.ext 34 (.t 29) 1), p (.mv 8 (.t 33)), p (.mv 9 (.t 34))] none) <|
  .seq (.region [p (.mv 35 (.t 8)), p (.mv 36 (.t 9)), p (.call 37 53 []), p (.mv 4 (.t 35)), p (.mv 5 (.t 36)), p (.store 2 (.t 6) (.t 37))] none) <|
  .ret⟩
theorem ok32 : compF Try.prog 32 = some c32.strip := by kernel_rfl

/-- posthouse/resync.Catch -/
def c33 : FnC := ⟨2, 69, [.cell 4 true 2, .tmp 5, .cell 6 true 2],
  .seq (.region [p (.box 2 5 (.t 0)), p (.box 3 2 (.t 1)), p (.alloc 4 [.t (.int .i64 0), .nilsl 2]), p (.mv 5 (.b false)), p (.alloc 6 [.t (.int .i64 0), .t (.int .i64 0)])] none) <|
  .seq (.seq (.region [p (.load 15 true 5 (.t 2)), p (.call 16 54 [(.t 15)]), p (.alloc 7 [.t (.int .i64 0), .t (.int .i64 0)]), p (.store 2 (.t 7) (.t 16))] none) <|
  .seq (.region [p (.load 17 true 2 (.t 7)), p (.call 18 45 [(.t 17)])] none) <|
  .cond (.t 18) (.seq (.region [p (.build 19 [.t (.int .i64 0), .nilsl 2] []), p (.load 20 true 2 (.t 7)), p (.store 2 (.t 4) (.t 19)), p (.mv 5 (.b false)), p (.store 2 (.t 6) (.t 20))] (some [0, 0, 1, 5, 15])) <|
    .ret) <|
  .skip) <|
  .seq (.seq (.region [p (.load 21 true 2 (.t 3)), p (.call 22 25 [(.t 21)]), p (.alloc 8 [.t (.int .i64 0), .t (.int .i64 0)]), p (.store 2 (.t 8) (.t 22))] none) <|
  .seq (.region [p (.load 23 true 2 (.t 8)), p (.call 24 45 [(.t 23)])] none) <|
  .cond (.t 24) (.seq (.region [p (.build 25 [.t (.int .i64 0), .nilsl 2] []), p (.faddr 26 0 (.t 8)), p (.load 27 false 1 (.t 26)), p (.call 28 48 [(.t 27), (.i .i64 (-5))]), p (.store 2 (.t 4) (.t 25)), p (.mv 5 (.b false)), p (.store 2 (.t 6) (.t 28))] none) <|
    .ret) <|
  .skip) <|
  .seq (.seq (.region [p (.faddr 29 0 (.t 3)), p (.load 30 false 1 (.t 29)), p (.faddr 31 1 (.t 2)), p (.load 32 false 1 (.t 31)), p (.bin 33 .gtr .int (.t 30) (.t 32))] none) <|
  .cond (.t 33) (.seq (.region [p (.build 34 [.t (.int .i64 0), .nilsl 2] []), p (.call 35 48 [(.i .i64 15), (.i .i64 (-5))]), p (.store 2 (.t 4) (.t 34)), p (.mv 5 (.b false)), p (.store 2 (.t 6) (.t 35))] none) <|
    .ret) <|
  .skip) <|
  .seq (.seq (.region [p (.faddr 36 0 (.t 3)), p (.load 37 false 1 (.t 36)), p (.faddr 38 2 (.t 2)), p (.load 39 false 1 (.t 38)), p (.bin 40 .gtr .int (.t 37) (.t 39))] none) <|
  .cond (.t 40) (.seq (.region [p (.load 42 true 5 (.t 2)), p (.faddr 43 0 (.t 3)), p (.load 44 false 1 (.t 43)), p (.call 45 70 [(.t 42), (.t 44)]), p (.mv 41 (.t 45)), p (.ext 46 (.t 41) 0), p (.ext 47 (.t 41) 1), p (.mv 9 (.t 46)), p (.mv 10 (.t 47))] none) <|
    .seq (.region [p (.load 49 true 2 (.t 3)), p (.mv 50 (.t 9)), p (.mv 51 (.t 10)), p (.faddr 52 1 (.t 2)), p (.load 53 false 1 (.t 52)), p (.call 54 20 [(.t 49), (.t 50), (.t 51), (.t 53)]), p (.mv 48 (.t 54)), p (.ext 55 (.t 48) 0), p (.ext 56 (.t 48) 1), p (.alloc 11 [.t (.int .i64 0), .nilsl 2]), p (.alloc 12 [.t (.int .i64 0), .t (.int .i64 0)]), p (.store 2 (.t 11) (.t 55)), p (.store 2 (.t 12) (.t 56))] none) <|
    .seq (.region [p (.load 57 true 2 (.t 12)), p (.build 58 [.t (.int .i64 0), .t (.int .i64 0)] []), p (.bin 59 .eql (.agg [.i, .i]) (.t 57) (.t 58))] none) <|
    .cond (.t 59) (.seq (.region [p (.load 60 true 2 (.t 11)), p (.load 61 true 2 (.t 12)), p (.store 2 (.t 4) (.t 60)), p (.mv 5 (.b false)), p (.store 2 (.t 6) (.t 61))] (some [0, 0, 1, 5, 15])) <|
      .ret) <|
    .skip) <|
  .skip) <|
  .seq (.region [p (.load 63 true 5 (.t 2)), p (.call 64 19 [(.t 63)]), p (.mv 62 (.t 64)), p (.ext 65 (.t 62) 0), p (.ext 66 (.t 62) 1), p (.alloc 13 [.t (.int .i64 0), .nilsl 2]), p (.alloc 14 [.t (.int .i64 0), .t (.int .i64 0)]), p (.store 2 (.t 13) (.t 65)), p (.store 2 (.t 14) (.t 66))] none) <|
  .seq (.region [p (.load 67 true 2 (.t 13)), p (.load 68 true 2 (.t 14)), p (.store 2 (.t 4) (.t 67)), p (.mv 5 (.b true)), p (.store 2 (.t 6) (.t 68))] (some [0, 0, 1, 5, 15])) <|
  .ret⟩
theorem ok33 : compF Try.prog 33 = some c33.strip := by kernel_rfl

/-- posthouse/posthouselaw8.resyncExample -/
def c34 : FnC := ⟨0, 52, [.tmp 0],
  .seq (.region [p (.mv 0 (.b false))] none) <|
  .seq (.region [p (.call 8 43 []), p (.call 9 32 [(.t 8), (.i .i64 4)]), p (.mv 7 (.t 9)), p (.ext 10 (.t 7) 0), p (.ext 11 (.t 7) 1), p (.ext 12 (.t 7) 2), p (.alloc 3 [.t (.int .i64 0), .t (.int .i64 0)]), p (.mv 1 (.t 10)), p (.mv 2 (.t 11)), p (.store 2 (.t 3) (.t 12))] none) <|
  .seq (.region [p (.call 14 43 []), p (.build 15 [.t (.int .i64 0), .t (.int .i64 0)] [(0, 1, (.i .i64 1))]), p (.build 16 [.t (.int .i64 0), .t (.int .i64 0)] [(0, 1, (.i .i64 2))]), p (.bsl 17 2 2 [(.int .i64 0), (.int .i64 0)] [(0, (.t 15)), (1, (.t 16))]), p (.build 18 [.t (.int .i64 0), .nilsl 2] [(0, 1, (.i .i64 3)), (1, 1, (.t 17))]), p (.call 19 33 [(.t 14), (.t 18)]), p (.mv 13 (.t 19)), p (.ext 20 (.t 13) 0), p (.ext 21 (.t 13) 1), p (.ext 22 (.t 13) 2), p (.alloc 4 [.t (.int .i64 0), .nilsl 2]), p (.alloc 6 [.t (.int .i64 0), .t (.int .i64 0)]), p (.store 2 (.t 4) (.t 20)), p (.mv 5 (.t 21)), p (.store 2 (.t 6) (.t 22))] none) <|
  .seq (.region [p (.faddr 23 0 (.t 3)), p (.load 24 false 1 (.t 23)), p (.bin 25 .eql .int (.t 24) (.i .i64 0)), p (.mv 26 (.t 25)), q 26 true (.mv 27 (.t 1)), q 26 true (.len 28 false (.t 27)), q 26 true (.bin 29 .eql .int (.t 28) (.i .i64 0)), p (.pick 30 (.t 26) (.t 29) (.b false)), p (.mv 31 (.t 30)), q 31 true (.mv 32 (.t 2)), q 31 true (.bsl 33 1 1 [(.int .i64 0)] [(0, (.i .i64 1))]), q 31 true (.call 34 36 [(.t 32), (.t 33)]), p (.pick 35 (.t 31) (.t 34) (.b false)), p (.mv 36 (.t 35)), q 36 true (.faddr 37 0 (.t 6)), q 36 true (.load 38 false 1 (.t 37)), q 36 true (.bin 39 .eql .int (.t 38) (.i .i64 0)), p (.pick 40 (.t 36) (.t 39) (.b false)), p (.mv 41 (.t 40)), q 41 true (.mv 42 (.t 5)), q 41 true (.un 43 .not (.t 42)), p (.pick 44 (.t 41) (.t 43) (.b false)), p (.mv 45 (.t 44)), q 45 true (.load 46 true 2 (.t 4)), q 45 true (.build 47 [.t (.int .i64 0), .t (.int .i64 0)] [(0, 1, (.i .i64 2)), (1, 1, (.i .i64 1))]), q 45 true (.bsl 48 2 1 [(.int .i64 0), (.int .i64 0)] [(0, (.t 47))]), q 45 true (.build 49 [.t (.int .i64 0), .nilsl 2] [(0, 1, (.i .i64 5)), (1, 1, (.t 48))]), q 45 true (.call 50 27 [(.t 46), (.t 49)]), p (.pick 51 (.t 45) (.t 50) (.b false)), p (.mv 0 (.t 51))] none) <|
  .ret⟩
theorem ok34 : compF Try.prog 34 = some c34.strip := by kernel_rfl

/-- posthouse/posthouseref8.Since -/
def c35l0 : AC :=
  .own 6 2 600 <|
  .seq (.seq (.region [p (.mv 10 (.t 8)), p (.faddr 11 3 (.t 2)), p (.load 12 false 1 (.t 11)), p (.len 13 false (.t 12)), p (.bin 14 .lss .int (.t 10) (.t 13))] none) <|
  .cond (.t 14) (.skip) <|
  .filt [1, 2, 6, 7] <|
  .exit 0) <|
  .seq (.block 1 <|
   .seq (.region [p (.faddr 17 3 (.t 2)), p (.load 18 false 1 (.t 17)), p (.mv 19 (.t 8)), p (.iaddr 20 6 (.t 18) (.t 19)), p (.faddr 21 1 (.t 20)), p (.load 22 false 1 (.t 21)), p (.mv 23 (.t 1)), p (.bin 24 .geq .int (.t 22) (.t 23))] none) <|
   .cond (.t 24) (.region [p (.mv 25 (.t 6)), p (.faddr 26 3 (.t 2)), p (.load 27 false 1 (.t 26)), p (.mv 28 (.t 8)), p (.iaddr 29 6 (.t 27) (.t 28)), p (.faddr 30 0 (.t 29)), p (.load 31 false 1 (.t 30)), p (.faddr 32 3 (.t 2)), p (.load 33 false 1 (.t 32)), p (.mv 34 (.t 8)), p (.iaddr 35 6 (.t 33) (.t 34)), p (.faddr 36 2 (.t 35)), p (.load 37 false 1 (.t 36)), p (.build 38 [.t (.int .i64 0), .t (.int .i64 0)] [(0, 1, (.t 31)), (1, 1, (.t 37))]), p (.bsl 39 2 1 [(.int .i64 0), (.int .i64 0)] [(0, (.t 38))]), p (.app 40 2 16 (.t 25) (.t 39)), p (.mv 6 (.t 40))] (some [0, 0, 2, 0, 14, 30, 62, 0, 128, 0, 896, 1920, 3968, 8190, 16382, 32767, 65535])) <|
   .skip) <|
  .region [p (.mv 15 (.t 8)), p (.bin 16 .add .int (.t 15) (.i .i64 1)), p (.mv 8 (.t 16))] none
def c35l1 : AC :=
  .own 7 1 700 <|
  .seq (.seq (.region [p (.mv 41 (.t 9)), p (.faddr 42 4 (.t 2)), p (.load 43 false 1 (.t 42)), p (.len 44 false (.t 43)), p (.bin 45 .lss .int (.t 41) (.t 44))] none) <|
  .cond (.t 45) (.skip) <|
  .filt [6, 7] <|
  .exit 2) <|
  .seq (.block 3 <|
   .seq (.region [p (.faddr 48 4 (.t 2)), p (.load 49 false 1 (.t 48)), p (.mv 50 (.t 9)), p (.iaddr 51 2 (.t 49) (.t 50)), p (.faddr 52 1 (.t 51)), p (.load 53 false 1 (.t 52)), p (.mv 54 (.t 1)), p (.bin 55 .geq .int (.t 53) (.t 54))] none) <|
   .cond (.t 55) (.region [p (.mv 56 (.t 7)), p (.faddr 57 4 (.t 2)), p (.load 58 false 1 (.t 57)), p (.mv 59 (.t 9)), p (.iaddr 60 2 (.t 58) (.t 59)), p (.faddr 61 0 (.t 60)), p (.load 62 false 1 (.t 61)), p (.bsl 63 1 1 [(.int .i64 0)] [(0, (.t 62))]), p (.app 64 1 8 (.t 56) (.t 63)), p (.mv 7 (.t 64))] none) <|
   .skip) <|
  .region [p (.mv 46 (.t 9)), p (.bin 47 .add .int (.t 46) (.i .i64 1)), p (.mv 9 (.t 47))] none
def c35 : FnC := ⟨2, 67, [.tmp 4, .tmp 5],
  .seq (.region [p (.box 2 5 (.t 0)), p (.mv 4 (.nil 2)), p (.mv 5 (.nil 1))] none) <|
  .seq (.region [p (.mv 6 (.nil 2))] none) <|
  .seq (.region [p (.mv 7 (.nil 1))] none) <|
  .seq (.seq (.region [p (.mv 8 (.i .i64 0))] none) <|
  .block 0 <|
   .loop (.filt [1, 2, 6, 7, 8] c35l0)) <|
  .seq (.seq (.region [p (.mv 9 (.i .i64 0))] none) <|
  .block 2 <|
   .loop (.filt [1, 2, 6, 7, 9] c35l1)) <|
  .seq (.region [p (.mv 65 (.t 6)), p (.mv 66 (.t 7)), p (.mv 4 (.t 65)), p (.mv 5 (.t 66))] none) <|
  .ret⟩
theorem ok35 : compF Try.prog 35 = some c35.strip := by kernel_rfl

/-- posthouse/posthouseref7.Ints -/
def c36l0 : AC :=
  .seq (.seq (.region [p (.mv 11 (.t 5)), p (.mv 12 (.t 0)), p (.len 13 false (.t 12)), p (.bin 14 .lss .int (.t 11) (.t 13))] none) <|
  .cond (.t 14) (.skip) <|
  .filt [] <|
  .exit 0) <|
  .seq (.block 1 <|
   .seq (.region [p (.mv 17 (.t 0)), p (.mv 18 (.t 5)), p (.iaddr 19 1 (.t 17) (.t 18)), p (.load 20 false 1 (.t 19)), p (.mv 21 (.t 1)), p (.mv 22 (.t 5)), p (.iaddr 23 1 (.t 21) (.t 22)), p (.load 24 false 1 (.t 23)), p (.bin 25 .neq .int (.t 20) (.t 24))] (some [0, 0, 3, 7, 0, 0, 48, 112, 255])) <|
   .cond (.t 25) (.seq (.region [p (.mv 4 (.b false))] none) <|
     .filt [4] <|
     .ret) <|
   .skip) <|
  .region [p (.mv 15 (.t 5)), p (.bin 16 .add .int (.t 15) (.i .i64 1)), p (.mv 5 (.t 16))] none
def c36 : FnC := ⟨2, 26, [.tmp 4],
  .seq (.region [p (.mv 4 (.b false))] none) <|
  .seq (.seq (.region [p (.mv 6 (.t 0)), p (.len 7 false (.t 6)), p (.mv 8 (.t 1)), p (.len 9 false (.t 8)), p (.bin 10 .neq .int (.t 7) (.t 9))] none) <|
  .cond (.t 10) (.seq (.region [p (.mv 4 (.b false))] none) <|
    .ret) <|
  .skip) <|
  .seq (.seq (.region [p (.mv 5 (.i .i64 0))] none) <|
  .block 0 <|
   .loop (.filt [0, 1, 5] c36l0)) <|
  .seq (.region [p (.mv 4 (.b true))] none) <|
  .ret⟩
theorem ok36 : compF Try.prog 36 = some c36.strip := by kernel_rfl

/-- posthouse/posthouseref7.Has -/
def c37l0 : AC :=
  .seq (.seq (.region [p (.mv 6 (.t 5)), p (.mv 7 (.t 0)), p (.len 8 false (.t 7)), p (.bin 9 .lss .int (.t 6) (.t 8))] none) <|
  .cond (.t 9) (.skip) <|
  .filt [] <|
  .exit 0) <|
  .seq (.block 1 <|
   .seq (.region [p (.mv 12 (.t 0)), p (.mv 13 (.t 5)), p (.iaddr 14 1 (.t 12) (.t 13)), p (.load 15 false 1 (.t 14)), p (.mv 16 (.t 1)), p (.bin 17 .eql .int (.t 15) (.t 16))] none) <|
   .cond (.t 17) (.seq (.region [p (.mv 4 (.b true))] none) <|
     .filt [4] <|
     .ret) <|
   .skip) <|
  .region [p (.mv 10 (.t 5)), p (.bin 11 .add .int (.t 10) (.i .i64 1)), p (.mv 5 (.t 11))] none
def c37 : FnC := ⟨2, 18, [.tmp 4],
  .seq (.region [p (.mv 4 (.b false))] none) <|
  .seq (.seq (.region [p (.mv 5 (.i .i64 0))] none) <|
  .block 0 <|
   .loop (.filt [0, 1, 5] c37l0)) <|
  .seq (.region [p (.mv 4 (.b false))] none) <|
  .ret⟩
theorem ok37 : compF Try.prog 37 = some c37.strip := by kernel_rfl

/-- posthouse/compact.Trim -/
def c38 : FnC := ⟨2, 37, [.cell 4 true 5, .cell 5 true 2],
  .seq (.region [p (.box 2 5 (.t 0)), p (.box 3 1 (.t 1)), p (.alloc 4 [.t (.int .i64 0), .t (.int .i64 0), .t (.int .i64 0), .nilsl 6, .nilsl 2]), p (.alloc 5 [.t (.int .i64 0), .t (.int .i64 0)])] none) <|
  .seq (.seq (.region [p (.load 7 true 5 (.t 2)), p (.call 8 54 [(.t 7)]), p (.alloc 6 [.t (.int .i64 0), .t (.int .i64 0)]), p (.store 2 (.t 6) (.t 8))] none) <|
  .seq (.region [p (.load 9 true 2 (.t 6)), p (.call 10 45 [(.t 9)])] none) <|
  .cond (.t 10) (.seq (.region [p (.build 11 [.t (.int .i64 0), .t (.int .i64 0), .t (.int .i64 0), .nilsl 6, .nilsl 2] []), p (.load 12 true 2 (.t 6)), p (.store 5 (.t 4) (.t 11)), p (.store 2 (.t 5) (.t 12))] (some [0, 0, 1, 7])) <|
    .ret) <|
  .skip) <|
  .seq (.seq (.region [p (.load 13 false 1 (.t 3)), p (.bin 14 .lss .int (.t 13) (.i .i64 0)), p (.mv 15 (.t 14)), q 15 false (.load 16 false 1 (.t 3)), q 15 false (.faddr 17 1 (.t 2)), q 15 false (.load 18 false 1 (.t 17)), q 15 false (.bin 19 .geq .int (.t 16) (.t 18)), p (.pick 20 (.t 15) (.b true) (.t 19))] none) <|
  .cond (.t 20) (.seq (.region [p (.build 21 [.t (.int .i64 0), .t (.int .i64 0), .t (.int .i64 0), .nilsl 6, .nilsl 2] []), p (.call 22 48 [(.i .i64 3), (.i .i64 (-4))]), p (.store 5 (.t 4) (.t 21)), p (.store 2 (.t 5) (.t 22))] none) <|
    .ret) <|
  .skip) <|
  .seq (.region [p (.load 23 true 5 (.t 2)), p (.call 24 71 [(.t 23)]), p (.store 5 (.t 2) (.t 24))] none) <|
  .seq (.region [p (.faddr 25 4 (.t 2)), p (.load 26 false 1 (.t 25)), p (.mkfn 27 73 [(.t 3)]), p (.call 28 72 [(.t 26), (.t 27)]), p (.faddr 29 4 (.t 2)), p (.store 1 (.t 29) (.t 28))] none) <|
  .seq (.region [p (.faddr 30 2 (.t 2)), p (.load 31 false 1 (.t 30)), p (.load 32 false 1 (.t 3)), p (.mxn 33 true [(.t 31), (.t 32)]), p (.faddr 34 2 (.t 2)), p (.store 1 (.t 34) (.t 33))] none) <|
  .seq (.region [p (.load 35 true 5 (.t 2)), p (.call 36 53 []), p (.store 5 (.t 4) (.t 35)), p (.store 2 (.t 5) (.t 36))] (some [0, 0, 3, 7])) <|
  .ret⟩
theorem ok38 : compF Try.prog 38 = some c38.strip := by kernel_rfl

/-- posthouse/posthouselaw8.offlineExample -/
def c39 : FnC := ⟨0, 90, [.tmp 0],
  .seq (.region [p (.mv 0 (.b false))] none) <|
  .seq (.region [p (.call 8 43 []), p (.build 9 [.t (.int .i64 0), .t (.int .i64 0), .t (.int .i64 0), .t (.bool false)] [(0, 1, (.i .i64 2)), (1, 1, (.i .i64 2))]), p (.build 10 [.t (.int .i64 0), .t (.int .i64 0), .t (.int .i64 0), .t (.bool false)] [(0, 1, (.i .i64 2)), (3, 1, (.b true))]), p (.build 11 [.t (.int .i64 0), .t (.int .i64 0), .t (.int .i64 0), .t (.bool false)] [(0, 1, (.i .i64 1)), (3, 1, (.b true))]), p (.bsl 12 4 3 [(.int .i64 0), (.int .i64 0), (.int .i64 0), (.bool false)] [(0, (.t 9)), (1, (.t 10)), (2, (.t 11))]), p (.call 13 40 [(.t 8), (.i .i64 3), (.t 12)]), p (.mv 7 (.t 13)), p (.ext 14 (.t 7) 0), p (.ext 15 (.t 7) 1), p (.ext 16 (.t 7) 2), p (.alloc 1 [.t (.int .i64 0), .t (.int .i64 0), .t (.int .i64 0), .nilsl 6, .nilsl 2]), p (.alloc 3 [.t (.int .i64 0), .t (.int .i64 0)]), p (.store 5 (.t 1) (.t 14)), p (.mv 2 (.t 15)), p (.store 2 (.t 3) (.t 16))] none) <|
  .seq (.region [p (.call 18 43 []), p (.build 19 [.t (.int .i64 0), .t (.int .i64 0), .t (.int .i64 0), .t (.bool false)] [(0, 1, (.i .i64 2)), (1, 1, (.i .i64 2))]), p (.build 20 [.t (.int .i64 0), .t (.int .i64 0), .t (.int .i64 0), .t (.bool false)] [(0, 1, (.i .i64 2)), (3, 1, (.b true))]), p (.bsl 21 4 2 [(.int .i64 0), (.int .i64 0), (.int .i64 0), (.bool false)] [(0, (.t 19)), (1, (.t 20))]), p (.call 22 40 [(.t 18), (.i .i64 5), (.t 21)]), p (.mv 17 (.t 22)), p (.ext 23 (.t 17) 0), p (.ext 24 (.t 17) 1), p (.ext 25 (.t 17) 2), p (.alloc 4 [.t (.int .i64 0), .t (.int .i64 0), .t (.int .i64 0), .nilsl 6, .nilsl 2]), p (.alloc 6 [.t (.int .i64 0), .t (.int .i64 0)]), p (.store 5 (.t 4) (.t 23)), p (.mv 5 (.t 24)), p (.store 2 (.t 6) (.t 25))] none) <|
  .seq (.region [p (.faddr 26 0 (.t 3)), p (.load 27 false 1 (.t 26)), p (.bin 28 .eql .int (.t 27) (.i .i64 0)), p (.mv 29 (.t 28)), q 29 true (.faddr 30 3 (.t 1)), q 29 true (.load 31 false 1 (.t 30)), q 29 true (.len 32 false (.t 31)), q 29 true (.bin 33 .eql .int (.t 32) (.i .i64 1)), p (.pick 34 (.t 29) (.t 33) (.b false)), p (.mv 35 (.t 34)), q 35 true (.faddr 36 3 (.t 1)), q 35 true (.load 37 false 1 (.t 36)), q 35 true (.iaddr 38 6 (.t 37) (.i .i64 0)), q 35 true (.faddr 39 2 (.t 38)), q 35 true (.load 40 false 1 (.t 39)), q 35 true (.bin 41 .eql .int (.t 40) (.i .i64 3)), p (.pick 42 (.t 35) (.t 41) (.b false)), p (.mv 43 (.t 42)), q 43 true (.mv 44 (.t 2)), q 43 true (.len 45 false (.t 44)), q 43 true (.bin 46 .eql .int (.t 45) (.i .i64 3)), p (.pick 47 (.t 43) (.t 46) (.b false)), p (.mv 48 (.t 47)), q 48 true (.mv 49 (.t 2)), q 48 true (.iaddr 50 3 (.t 49) (.i .i64 0)), q 48 true (.faddr 51 1 (.t 50)), q 48 true (.load 52 false 1 (.t 51)), p (.pick 53 (.t 48) (.t 52) (.b false)), p (.mv 54 (.t 53)), q 54 true (.mv 55 (.t 2)), q 54 true (.iaddr 56 3 (.t 55) (.i .i64 1)), q 54 true (.faddr 57 2 (.t 56)), q 54 true (.load 58 false 1 (.t 57)), q 54 true (.bin 59 .eql .int (.t 58) (.i .i64 15)), p (.pick 60 (.t 54) (.t 59) (.b false)), p (.mv 61 (.t 60)), q 61 true (.mv 62 (.t 2)), q 61 true (.iaddr 63 3 (.t 62) (.i .i64 2)), q 61 true (.faddr 64 2 (.t 63)), q 61 true (.load 65 false 1 (.t 64)), q 61 true (.bin 66 .eql .int (.t 65) (.i .i64 6)), p (.pick 67 (.t 61) (.t 66) (.b false)), p (.mv 68 (.t 67)), q 68 true (.faddr 69 0 (.t 6)), q 68 true (.load 70 false 1 (.t 69)), q 68 true (.bin 71 .eql .int (.t 70) (.i .i64 0)), p (.pick 72 (.t 68) (.t 71) (.b false)), p (.mv 73 (.t 72)), q 73 true (.faddr 74 3 (.t 4)), q 73 true (.load 75 false 1 (.t 74)), q 73 true (.len 76 false (.t 75)), q 73 true (.bin 77 .eql .int (.t 76) (.i .i64 0)), p (.pick 78 (.t 73) (.t 77) (.b false)), p (.mv 79 (.t 78)), q 79 true (.mv 80 (.t 5)), q 79 true (.len 81 false (.t 80)), q 79 true (.bin 82 .eql .int (.t 81) (.i .i64 2)), p (.pick 83 (.t 79) (.t 82) (.b false)), p (.mv 84 (.t 83)), q 84 true (.mv 85 (.t 5)), q 84 true (.iaddr 86 3 (.t 85) (.i .i64 1)), q 84 true (.faddr 87 1 (.t 86)), q 84 true (.load 88 false 1 (.t 87)), p (.pick 89 (.t 84) (.t 88) (.b false)), p (.mv 0 (.t 89))] none) <|
  .ret⟩
theorem ok39 : compF Try.prog 39 = some c39.strip := by kernel_rfl

end Go.Proofs.Ytbempckmbfbjgaa.Code
