/- Part of a proof about the given program: lemmas that the other parts use. -/
import Derived.Test.YtnmgifoihmjjmaaPart2
import Derived.Test.YtnmgifoihmjjmaaProg
import Derived.KernelRfl
import Derived.Test.YtnmgifoihmjjmaaPart3
import Derived.IntWalk

set_option linter.all false
set_option linter.unusedSimpArgs false
set_option linter.unusedVariables false
set_option maxRecDepth 100000
namespace Go.Proofs
open Go Go.Eng
/-- simulacrum/token.Take -/
def ac23 : AC := (.seq (.reg [⟨some 2, .h (.box (.t 0)), none⟩,
    ⟨some 3, .h (.box (.t 1)), none⟩,
    ⟨some 4, .h (.alloc [(.int .i64 0), (.int .i64 0), (.int .i64 0), (.bool false), (.bool false), (.bool false), (.int .i64 0), (.int .i64 0), (.int .i64 0), (.int .i64 0), (.int .i64 0)]), none⟩])
  (.seq (.reg [⟨some 7, .p (.fieldA 1 (.t 3)), none⟩,
    ⟨some 8, .h (.load true 5 (.t 7)), none⟩,
    ⟨some 5, .h (.alloc [(.int .i64 0), (.int .i64 0), (.int .i64 0), (.int .i64 0), (.int .i64 0)]), none⟩,
    ⟨none, .h (.store 5 (.t 5) (.t 8)), none⟩])
  (.seq (.seq (.reg [⟨some 9, .p (.fieldA 1 (.t 5)), none⟩,
    ⟨some 10, .h (.load false 1 (.t 9)), none⟩,
    ⟨some 11, .p (.fieldA 0 (.t 2)), none⟩,
    ⟨some 12, .h (.load false 1 (.t 11)), none⟩,
    ⟨some 13, .p (.bin .eql (.t 10) (.t 12)), none⟩,
    ⟨some 14, .p (.mov (.t 13)), none⟩,
    ⟨some 15, .p (.fieldA 7 (.t 3)), (some (14, true))⟩,
    ⟨some 16, .h (.load false 1 (.t 15)), (some (14, true))⟩,
    ⟨some 17, .d (.bslice 1 1 [(.int .i64 0)] [(0, (.t 16))]), (some (14, true))⟩,
    ⟨some 18, .call 30 [(.t 17)], (some (14, true))⟩,
    ⟨some 19, .p (.pick (.t 14) (.t 18) (.c (.bool false))), none⟩])
  (.cond (.t 19) (.reg [⟨some 20, .p (.fieldA 10 (.t 2)), none⟩,
    ⟨some 21, .h (.load false 1 (.t 20)), none⟩,
    ⟨some 22, .p (.fieldA 7 (.t 3)), none⟩,
    ⟨some 23, .h (.load false 1 (.t 22)), none⟩,
    ⟨some 24, .p (.mm true (.t 21) (.t 23)), none⟩,
    ⟨some 25, .p (.fieldA 10 (.t 2)), none⟩,
    ⟨none, .h (.store 1 (.t 25) (.t 24)), none⟩]) .skip))
  (.seq (.reg [⟨some 26, .h (.load true 5 (.t 5)), none⟩,
    ⟨some 6, .h (.alloc [(.int .i64 0), (.int .i64 0), (.int .i64 0), (.int .i64 0), (.int .i64 0)]), none⟩,
    ⟨none, .h (.store 5 (.t 6) (.t 26)), none⟩])
  (.seq (.draw 12 [(1, 7), (3, 9), (7, 9), (1, 9), (5, 11), (9, 11), (1, 11), (3, 11), (7, 11)] [⟨some 27, .p (.fieldA 0 (.t 2)), none⟩,
    ⟨some 28, .h (.load false 1 (.t 27)), none⟩,
    ⟨some 29, .p (.fieldA 1 (.t 2)), none⟩,
    ⟨some 30, .h (.load false 1 (.t 29)), none⟩,
    ⟨some 31, .p (.fieldA 2 (.t 2)), none⟩,
    ⟨some 32, .h (.load false 1 (.t 31)), none⟩,
    ⟨some 33, .p (.fieldA 1 (.t 6)), none⟩,
    ⟨none, .h (.store 1 (.t 33) (.t 28)), none⟩,
    ⟨some 34, .p (.fieldA 2 (.t 6)), none⟩,
    ⟨none, .h (.store 1 (.t 34) (.t 30)), none⟩,
    ⟨some 35, .p (.fieldA 3 (.t 6)), none⟩,
    ⟨none, .h (.store 1 (.t 35) (.t 32)), none⟩])
  (.seq (.seq (.reg [⟨some 36, .p (.fieldA 6 (.t 3)), none⟩,
    ⟨some 37, .h (.load false 1 (.t 36)), none⟩,
    ⟨some 38, .p (.un .not (.t 37)), none⟩,
    ⟨some 39, .p (.mov (.t 38)), none⟩,
    ⟨some 40, .p (.fieldA 0 (.t 3)), (some (39, false))⟩,
    ⟨some 41, .h (.load false 1 (.t 40)), (some (39, false))⟩,
    ⟨some 42, .p (.bin .lss (.t 41) (.c (.int .i64 0))), (some (39, false))⟩,
    ⟨some 43, .p (.pick (.t 39) (.c (.bool true)) (.t 42)), none⟩,
    ⟨some 44, .p (.mov (.t 43)), none⟩,
    ⟨some 45, .p (.fieldA 0 (.t 3)), (some (44, false))⟩,
    ⟨some 46, .h (.load false 1 (.t 45)), (some (44, false))⟩,
    ⟨some 47, .p (.bin .geq (.t 46) (.c (.int .i64 3))), (some (44, false))⟩,
    ⟨some 48, .p (.pick (.t 44) (.c (.bool true)) (.t 47)), none⟩,
    ⟨some 49, .p (.mov (.t 48)), none⟩,
    ⟨some 50, .h (.load true 5 (.t 5)), (some (49, false))⟩,
    ⟨some 51, .call 35 [(.t 50)], (some (49, false))⟩,
    ⟨some 52, .p (.un .not (.t 51)), (some (49, false))⟩,
    ⟨some 53, .p (.pick (.t 49) (.c (.bool true)) (.t 52)), none⟩,
    ⟨some 54, .p (.mov (.t 53)), none⟩,
    ⟨some 55, .h (.load true 5 (.t 5)), (some (54, false))⟩,
    ⟨some 56, .h (.load true 5 (.t 6)), (some (54, false))⟩,
    ⟨some 57, .v (.eqa true [(.i .i64), (.i .i64), (.i .i64), (.i .i64), (.i .i64)] (.t 55) (.t 56)), (some (54, false))⟩,
    ⟨some 58, .p (.pick (.t 54) (.c (.bool true)) (.t 57)), none⟩,
    ⟨some 59, .p (.mov (.t 58)), none⟩,
    ⟨some 60, .p (.fieldA 7 (.t 3)), (some (59, false))⟩,
    ⟨some 61, .h (.load false 1 (.t 60)), (some (59, false))⟩,
    ⟨some 62, .p (.bin .neq (.t 61) (.c (.int .i64 0))), (some (59, false))⟩,
    ⟨some 63, .p (.mov (.t 62)), (some (59, false))⟩,
    ⟨some 64, .p (.fieldA 7 (.t 3)), (some (63, true))⟩,
    ⟨some 65, .h (.load false 1 (.t 64)), (some (63, true))⟩,
    ⟨some 66, .d (.bslice 1 1 [(.int .i64 0)] [(0, (.t 65))]), (some (63, true))⟩,
    ⟨some 67, .call 30 [(.t 66)], (some (63, true))⟩,
    ⟨some 68, .p (.un .not (.t 67)), (some (63, true))⟩,
    ⟨some 69, .p (.pick (.t 63) (.t 68) (.c (.bool false))), (some (59, false))⟩,
    ⟨some 70, .p (.pick (.t 59) (.c (.bool true)) (.t 69)), none⟩,
    ⟨some 71, .p (.mov (.t 70)), none⟩,
    ⟨some 72, .p (.fieldA 8 (.t 3)), (some (71, false))⟩,
    ⟨some 73, .h (.load false 1 (.t 72)), (some (71, false))⟩,
    ⟨some 74, .d (.bslice 1 1 [(.int .i64 0)] [(0, (.t 73))]), (some (71, false))⟩,
    ⟨some 75, .call 31 [(.t 74)], (some (71, false))⟩,
    ⟨some 76, .p (.un .not (.t 75)), (some (71, false))⟩,
    ⟨some 77, .p (.pick (.t 71) (.c (.bool true)) (.t 76)), none⟩])
  (.cond (.t 77) (.seq (.reg [⟨some 78, .h (.load true 11 (.t 2)), none⟩,
    ⟨none, .h (.store 11 (.t 4) (.t 78)), none⟩])
  .ret) .skip))
  (.seq (.block 0 (.seq (.reg [⟨some 80, .p (.fieldA 0 (.t 5)), none⟩,
    ⟨some 81, .h (.load false 1 (.t 80)), none⟩,
    ⟨some 82, .p (.bin .eql (.t 81) (.c (.int .i64 2))), none⟩,
    ⟨some 79, .p (.mov (.t 82)), none⟩])
  (.cond (.t 79) (.draw 13 [(1, 12), (3, 12), (6, 12), (8, 12)] [⟨some 83, .p (.fieldA 0 (.t 3)), none⟩,
    ⟨some 84, .h (.load false 1 (.t 83)), none⟩,
    ⟨some 85, .p (.fieldA 0 (.t 3)), none⟩,
    ⟨some 86, .h (.load false 1 (.t 85)), none⟩,
    ⟨some 87, .p (.fieldA 7 (.t 2)), none⟩,
    ⟨some 88, .p (.idxA 1 (some 3) (.t 87) (.t 86)), none⟩,
    ⟨some 89, .h (.load false 1 (.t 88)), none⟩,
    ⟨some 90, .p (.fieldA 4 (.t 5)), none⟩,
    ⟨some 91, .h (.load false 1 (.t 90)), none⟩,
    ⟨some 92, .p (.mm true (.t 89) (.t 91)), none⟩,
    ⟨some 93, .p (.fieldA 7 (.t 2)), none⟩,
    ⟨some 94, .p (.idxA 1 (some 3) (.t 93) (.t 84)), none⟩,
    ⟨none, .h (.store 1 (.t 94) (.t 92)), none⟩]) (.seq (.reg [⟨some 96, .p (.fieldA 0 (.t 3)), none⟩,
    ⟨some 97, .h (.load false 1 (.t 96)), none⟩,
    ⟨some 98, .p (.fieldA 3 (.t 2)), none⟩,
    ⟨some 99, .p (.idxA 1 (some 3) (.t 98) (.t 97)), none⟩,
    ⟨some 100, .h (.load false 1 (.t 99)), none⟩,
    ⟨some 101, .p (.un .not (.t 100)), none⟩,
    ⟨some 95, .p (.mov (.t 101)), none⟩])
  (.cond (.t 95) (.seq (.reg [⟨some 102, .p (.fieldA 0 (.t 3)), none⟩,
    ⟨some 103, .h (.load false 1 (.t 102)), none⟩,
    ⟨some 104, .p (.fieldA 3 (.t 2)), none⟩,
    ⟨some 105, .p (.idxA 1 (some 3) (.t 104) (.t 103)), none⟩,
    ⟨none, .h (.store 1 (.t 105) (.c (.bool true))), none⟩])
  (.reg [⟨some 106, .p (.fieldA 6 (.t 2)), none⟩,
    ⟨some 107, .h (.load false 1 (.t 106)), none⟩,
    ⟨some 108, .p (.fieldA 8 (.t 3)), none⟩,
    ⟨some 109, .h (.load false 1 (.t 108)), none⟩,
    ⟨some 110, .p (.mm true (.t 107) (.t 109)), none⟩,
    ⟨some 111, .p (.fieldA 6 (.t 2)), none⟩,
    ⟨none, .h (.store 1 (.t 111) (.t 110)), none⟩])) .skip)))))
  (.seq (.reg [⟨some 112, .h (.load true 11 (.t 2)), none⟩,
    ⟨none, .h (.store 11 (.t 4) (.t 112)), none⟩])
  .ret))))))))
def rs23 : List AR := [.cell 4 true 11]
theorem ok23 : okF Try.prog 23 113 ac23 rs23 = true := by kernel_rfl
/-- simulacrum/simulacrumref37.Take -/
def ac24 : AC := (.seq (.reg [⟨some 2, .h (.box (.t 0)), none⟩,
    ⟨some 3, .h (.box (.t 1)), none⟩,
    ⟨some 4, .h (.alloc [(.int .i64 0), (.int .i64 0), (.int .i64 0), (.bool false), (.bool false), (.bool false), (.int .i64 0), (.int .i64 0), (.int .i64 0), (.int .i64 0), (.int .i64 0)]), none⟩])
  (.seq (.seq (.reg [⟨some 6, .p (.fieldA 1 (.t 3)), none⟩,
    ⟨some 7, .p (.fieldA 1 (.t 6)), none⟩,
    ⟨some 8, .h (.load false 1 (.t 7)), none⟩,
    ⟨some 9, .p (.fieldA 0 (.t 2)), none⟩,
    ⟨some 10, .h (.load false 1 (.t 9)), none⟩,
    ⟨some 11, .p (.bin .eql (.t 8) (.t 10)), none⟩,
    ⟨some 12, .p (.mov (.t 11)), none⟩,
    ⟨some 13, .p (.fieldA 7 (.t 3)), (some (12, true))⟩,
    ⟨some 14, .h (.load false 1 (.t 13)), (some (12, true))⟩,
    ⟨some 15, .call 33 [(.t 14)], (some (12, true))⟩,
    ⟨some 16, .p (.pick (.t 12) (.t 15) (.c (.bool false))), none⟩])
  (.cond (.t 16) (.reg [⟨some 17, .p (.fieldA 10 (.t 2)), none⟩,
    ⟨some 18, .h (.load false 1 (.t 17)), none⟩,
    ⟨some 19, .p (.fieldA 7 (.t 3)), none⟩,
    ⟨some 20, .h (.load false 1 (.t 19)), none⟩,
    ⟨some 21, .p (.mm true (.t 18) (.t 20)), none⟩,
    ⟨some 22, .p (.fieldA 10 (.t 2)), none⟩,
    ⟨none, .h (.store 1 (.t 22) (.t 21)), none⟩]) .skip))
  (.seq (.reg [⟨some 23, .p (.fieldA 1 (.t 3)), none⟩,
    ⟨some 24, .h (.load true 5 (.t 23)), none⟩,
    ⟨some 5, .h (.alloc [(.int .i64 0), (.int .i64 0), (.int .i64 0), (.int .i64 0), (.int .i64 0)]), none⟩,
    ⟨none, .h (.store 5 (.t 5) (.t 24)), none⟩])
  (.seq (.seq (.reg [⟨some 25, .p (.fieldA 6 (.t 3)), none⟩,
    ⟨some 26, .h (.load false 1 (.t 25)), none⟩,
    ⟨some 27, .p (.un .not (.t 26)), none⟩,
    ⟨some 28, .p (.mov (.t 27)), none⟩,
    ⟨some 29, .p (.fieldA 0 (.t 3)), (some (28, false))⟩,
    ⟨some 30, .h (.load false 1 (.t 29)), (some (28, false))⟩,
    ⟨some 31, .p (.bin .lss (.t 30) (.c (.int .i64 0))), (some (28, false))⟩,
    ⟨some 32, .p (.pick (.t 28) (.c (.bool true)) (.t 31)), none⟩,
    ⟨some 33, .p (.mov (.t 32)), none⟩,
    ⟨some 34, .p (.fieldA 0 (.t 3)), (some (33, false))⟩,
    ⟨some 35, .h (.load false 1 (.t 34)), (some (33, false))⟩,
    ⟨some 36, .p (.bin .geq (.t 35) (.c (.int .i64 3))), (some (33, false))⟩,
    ⟨some 37, .p (.pick (.t 33) (.c (.bool true)) (.t 36)), none⟩,
    ⟨some 38, .p (.mov (.t 37)), none⟩,
    ⟨some 39, .h (.load true 5 (.t 5)), (some (38, false))⟩,
    ⟨some 40, .call 38 [(.t 39)], (some (38, false))⟩,
    ⟨some 41, .p (.un .not (.t 40)), (some (38, false))⟩,
    ⟨some 42, .p (.pick (.t 38) (.c (.bool true)) (.t 41)), none⟩,
    ⟨some 43, .p (.mov (.t 42)), none⟩,
    ⟨some 44, .p (.fieldA 1 (.t 5)), (some (43, false))⟩,
    ⟨some 45, .h (.load false 1 (.t 44)), (some (43, false))⟩,
    ⟨some 46, .p (.fieldA 0 (.t 2)), (some (43, false))⟩,
    ⟨some 47, .h (.load false 1 (.t 46)), (some (43, false))⟩,
    ⟨some 48, .p (.bin .neq (.t 45) (.t 47)), (some (43, false))⟩,
    ⟨some 49, .p (.pick (.t 43) (.c (.bool true)) (.t 48)), none⟩,
    ⟨some 50, .p (.mov (.t 49)), none⟩,
    ⟨some 51, .p (.fieldA 2 (.t 5)), (some (50, false))⟩,
    ⟨some 52, .h (.load false 1 (.t 51)), (some (50, false))⟩,
    ⟨some 53, .p (.fieldA 1 (.t 2)), (some (50, false))⟩,
    ⟨some 54, .h (.load false 1 (.t 53)), (some (50, false))⟩,
    ⟨some 55, .p (.bin .neq (.t 52) (.t 54)), (some (50, false))⟩,
    ⟨some 56, .p (.pick (.t 50) (.c (.bool true)) (.t 55)), none⟩,
    ⟨some 57, .p (.mov (.t 56)), none⟩,
    ⟨some 58, .p (.fieldA 3 (.t 5)), (some (57, false))⟩,
    ⟨some 59, .h (.load false 1 (.t 58)), (some (57, false))⟩,
    ⟨some 60, .p (.fieldA 2 (.t 2)), (some (57, false))⟩,
    ⟨some 61, .h (.load false 1 (.t 60)), (some (57, false))⟩,
    ⟨some 62, .p (.bin .neq (.t 59) (.t 61)), (some (57, false))⟩,
    ⟨some 63, .p (.pick (.t 57) (.c (.bool true)) (.t 62)), none⟩,
    ⟨some 64, .p (.mov (.t 63)), none⟩,
    ⟨some 65, .p (.fieldA 7 (.t 3)), (some (64, false))⟩,
    ⟨some 66, .h (.load false 1 (.t 65)), (some (64, false))⟩,
    ⟨some 67, .p (.bin .lss (.t 66) (.c (.int .i64 0))), (some (64, false))⟩,
    ⟨some 68, .p (.pick (.t 64) (.c (.bool true)) (.t 67)), none⟩,
    ⟨some 69, .p (.mov (.t 68)), none⟩,
    ⟨some 70, .p (.fieldA 7 (.t 3)), (some (69, false))⟩,
    ⟨some 71, .h (.load false 1 (.t 70)), (some (69, false))⟩,
    ⟨some 72, .p (.bin .gtr (.t 71) (.c (.int .i64 1073741824))), (some (69, false))⟩,
    ⟨some 73, .p (.pick (.t 69) (.c (.bool true)) (.t 72)), none⟩,
    ⟨some 74, .p (.mov (.t 73)), none⟩,
    ⟨some 75, .p (.fieldA 8 (.t 3)), (some (74, false))⟩,
    ⟨some 76, .h (.load false 1 (.t 75)), (some (74, false))⟩,
    ⟨some 77, .call 34 [(.t 76)], (some (74, false))⟩,
    ⟨some 78, .p (.un .not (.t 77)), (some (74, false))⟩,
    ⟨some 79, .p (.pick (.t 74) (.c (.bool true)) (.t 78)), none⟩])
  (.cond (.t 79) (.seq (.reg [⟨some 80, .h (.load true 11 (.t 2)), none⟩,
    ⟨none, .h (.store 11 (.t 4) (.t 80)), none⟩])
  .ret) .skip))
  (.seq (.seq (.reg [⟨some 81, .p (.fieldA 0 (.t 5)), none⟩,
    ⟨some 82, .h (.load false 1 (.t 81)), none⟩,
    ⟨some 83, .p (.bin .eql (.t 82) (.c (.int .i64 2))), none⟩])
  (.cond (.t 83) (.draw 13 [(1, 12), (3, 12), (6, 12), (8, 12)] [⟨some 84, .p (.fieldA 0 (.t 3)), none⟩,
    ⟨some 85, .h (.load false 1 (.t 84)), none⟩,
    ⟨some 86, .p (.fieldA 0 (.t 3)), none⟩,
    ⟨some 87, .h (.load false 1 (.t 86)), none⟩,
    ⟨some 88, .p (.fieldA 7 (.t 2)), none⟩,
    ⟨some 89, .p (.idxA 1 (some 3) (.t 88) (.t 87)), none⟩,
    ⟨some 90, .h (.load false 1 (.t 89)), none⟩,
    ⟨some 91, .p (.fieldA 4 (.t 5)), none⟩,
    ⟨some 92, .h (.load false 1 (.t 91)), none⟩,
    ⟨some 93, .p (.mm true (.t 90) (.t 92)), none⟩,
    ⟨some 94, .p (.fieldA 7 (.t 2)), none⟩,
    ⟨some 95, .p (.idxA 1 (some 3) (.t 94) (.t 85)), none⟩,
    ⟨none, .h (.store 1 (.t 95) (.t 93)), none⟩]) (.seq (.reg [⟨some 96, .p (.fieldA 0 (.t 3)), none⟩,
    ⟨some 97, .h (.load false 1 (.t 96)), none⟩,
    ⟨some 98, .p (.fieldA 3 (.t 2)), none⟩,
    ⟨some 99, .p (.idxA 1 (some 3) (.t 98) (.t 97)), none⟩,
    ⟨some 100, .h (.load false 1 (.t 99)), none⟩,
    ⟨some 101, .p (.un .not (.t 100)), none⟩])
  (.cond (.t 101) (.seq (.reg [⟨some 102, .p (.fieldA 0 (.t 3)), none⟩,
    ⟨some 103, .h (.load false 1 (.t 102)), none⟩,
    ⟨some 104, .p (.fieldA 3 (.t 2)), none⟩,
    ⟨some 105, .p (.idxA 1 (some 3) (.t 104) (.t 103)), none⟩,
    ⟨none, .h (.store 1 (.t 105) (.c (.bool true))), none⟩])
  (.reg [⟨some 106, .p (.fieldA 6 (.t 2)), none⟩,
    ⟨some 107, .h (.load false 1 (.t 106)), none⟩,
    ⟨some 108, .p (.fieldA 8 (.t 3)), none⟩,
    ⟨some 109, .h (.load false 1 (.t 108)), none⟩,
    ⟨some 110, .p (.mm true (.t 107) (.t 109)), none⟩,
    ⟨some 111, .p (.fieldA 6 (.t 2)), none⟩,
    ⟨none, .h (.store 1 (.t 111) (.t 110)), none⟩])) .skip))))
  (.seq (.reg [⟨some 112, .h (.load true 11 (.t 2)), none⟩,
    ⟨none, .h (.store 11 (.t 4) (.t 112)), none⟩])
  .ret))))))
def rs24 : List AR := [.cell 4 true 11]
theorem ok24 : okF Try.prog 24 113 ac24 rs24 = true := by kernel_rfl
/-- simulacrum/simulacrumref37.Holds -/
def ac25 : AC := (.seq (.reg [⟨some 1, .h (.box (.t 0)), none⟩,
    ⟨some 2, .p (.mov (.c (.bool false))), none⟩])
  (.seq (.reg [⟨some 3, .p (.mov (.c (.int .i64 0))), none⟩])
  (.seq (.seq (.reg [⟨some 4, .p (.mov (.c (.int .i64 0))), none⟩])
  (.block 0 (.loop (.seq (.seq (.reg [⟨some 5, .p (.mov (.t 4)), none⟩,
    ⟨some 6, .p (.bin .lss (.t 5) (.c (.int .i64 3))), none⟩])
  (.cond (.t 6) .skip (.exit 0)))
  (.seq (.block 1 (.seq (.reg [⟨some 9, .p (.mov (.t 4)), none⟩,
    ⟨some 10, .p (.fieldA 3 (.t 1)), none⟩,
    ⟨some 11, .p (.idxA 1 (some 3) (.t 10) (.t 9)), none⟩,
    ⟨some 12, .h (.load false 1 (.t 11)), none⟩])
  (.cond (.t 12) (.reg [⟨some 13, .p (.mov (.t 3)), none⟩,
    ⟨some 14, .p (.bin .add (.t 13) (.c (.int .i64 1))), none⟩,
    ⟨some 3, .p (.mov (.t 14)), none⟩]) .skip)))
  (.reg [⟨some 7, .p (.mov (.t 4)), none⟩,
    ⟨some 8, .p (.bin .add (.t 7) (.c (.int .i64 1))), none⟩,
    ⟨some 4, .p (.mov (.t 8)), none⟩]))))))
  (.seq (.reg [⟨some 15, .p (.mov (.t 3)), none⟩,
    ⟨some 16, .p (.bin .geq (.t 15) (.c (.int .i64 2))), none⟩,
    ⟨some 2, .p (.mov (.t 16)), none⟩])
  .ret))))
def rs25 : List AR := [.tmp 2]
theorem ok25 : okF Try.prog 25 17 ac25 rs25 = true := by kernel_rfl
/-- simulacrum/simulacrumref37.Released -/
def ac26 : AC := (.seq (.reg [⟨some 1, .h (.box (.t 0)), none⟩,
    ⟨some 2, .p (.mov (.c (.int .i64 0))), none⟩])
  (.seq (.seq (.reg [⟨some 7, .h (.load true 11 (.t 1)), none⟩,
    ⟨some 8, .call 25 [(.t 7)], none⟩,
    ⟨some 9, .p (.un .not (.t 8)), none⟩])
  (.cond (.t 9) (.seq (.reg [⟨some 2, .p (.mov (.c (.int .i64 0))), none⟩])
  .ret) .skip))
  (.seq (.reg [⟨some 3, .p (.mov (.c (.int .i64 0))), none⟩])
  (.seq (.seq (.reg [⟨some 4, .p (.mov (.c (.int .i64 0))), none⟩])
  (.block 0 (.loop (.seq (.seq (.reg [⟨some 10, .p (.mov (.t 4)), none⟩,
    ⟨some 11, .p (.bin .lss (.t 10) (.c (.int .i64 3))), none⟩])
  (.cond (.t 11) .skip (.exit 0)))
  (.seq (.block 1 (.seq (.reg [⟨some 5, .p (.mov (.c (.int .i64 0))), none⟩])
  (.seq (.seq (.reg [⟨some 6, .p (.mov (.c (.int .i64 0))), none⟩])
  (.block 2 (.loop (.seq (.seq (.reg [⟨some 14, .p (.mov (.t 6)), none⟩,
    ⟨some 15, .p (.bin .lss (.t 14) (.c (.int .i64 3))), none⟩])
  (.cond (.t 15) .skip (.exit 2)))
  (.seq (.block 3 (.seq (.draw 9 [] [⟨some 18, .p (.mov (.t 6)), none⟩,
    ⟨some 19, .p (.fieldA 7 (.t 1)), none⟩,
    ⟨some 20, .p (.idxA 1 (some 3) (.t 19) (.t 18)), none⟩,
    ⟨some 21, .h (.load false 1 (.t 20)), none⟩,
    ⟨some 22, .p (.mov (.t 4)), none⟩,
    ⟨some 23, .p (.fieldA 7 (.t 1)), none⟩,
    ⟨some 24, .p (.idxA 1 (some 3) (.t 23) (.t 22)), none⟩,
    ⟨some 25, .h (.load false 1 (.t 24)), none⟩,
    ⟨some 26, .p (.bin .geq (.t 21) (.t 25)), none⟩])
  (.cond (.t 26) (.reg [⟨some 27, .p (.mov (.t 5)), none⟩,
    ⟨some 28, .p (.bin .add (.t 27) (.c (.int .i64 1))), none⟩,
    ⟨some 5, .p (.mov (.t 28)), none⟩]) .skip)))
  (.reg [⟨some 16, .p (.mov (.t 6)), none⟩,
    ⟨some 17, .p (.bin .add (.t 16) (.c (.int .i64 1))), none⟩,
    ⟨some 6, .p (.mov (.t 17)), none⟩]))))))
  (.seq (.reg [⟨some 29, .p (.mov (.t 5)), none⟩,
    ⟨some 30, .p (.bin .geq (.t 29) (.c (.int .i64 2))), none⟩])
  (.cond (.t 30) (.reg [⟨some 31, .p (.mov (.t 3)), none⟩,
    ⟨some 32, .p (.mov (.t 4)), none⟩,
    ⟨some 33, .p (.fieldA 7 (.t 1)), none⟩,
    ⟨some 34, .p (.idxA 1 (some 3) (.t 33) (.t 32)), none⟩,
    ⟨some 35, .h (.load false 1 (.t 34)), none⟩,
    ⟨some 36, .p (.mm true (.t 31) (.t 35)), none⟩,
    ⟨some 3, .p (.mov (.t 36)), none⟩]) .skip)))))
  (.reg [⟨some 12, .p (.mov (.t 4)), none⟩,
    ⟨some 13, .p (.bin .add (.t 12) (.c (.int .i64 1))), none⟩,
    ⟨some 4, .p (.mov (.t 13)), none⟩]))))))
  (.seq (.reg [⟨some 37, .p (.mov (.t 3)), none⟩,
    ⟨some 2, .p (.mov (.t 37)), none⟩])
  .ret)))))
def rs26 : List AR := [.tmp 2]
theorem ok26 : okF Try.prog 26 38 ac26 rs26 = true := by kernel_rfl
/-- simulacrum/token.Valid -/
def ac27 : AC := (.seq (.reg [⟨some 1, .h (.box (.t 0)), none⟩,
    ⟨some 2, .p (.mov (.c (.bool false))), none⟩])
  (.seq (.seq (.reg [⟨some 5, .p (.fieldA 0 (.t 1)), none⟩,
    ⟨some 6, .h (.load false 1 (.t 5)), none⟩,
    ⟨some 7, .p (.bin .lss (.t 6) (.c (.int .i64 0))), none⟩,
    ⟨some 8, .p (.mov (.t 7)), none⟩,
    ⟨some 9, .p (.fieldA 0 (.t 1)), (some (8, false))⟩,
    ⟨some 10, .h (.load false 1 (.t 9)), (some (8, false))⟩,
    ⟨some 11, .p (.bin .geq (.t 10) (.c (.int .i64 3))), (some (8, false))⟩,
    ⟨some 12, .p (.pick (.t 8) (.c (.bool true)) (.t 11)), none⟩,
    ⟨some 13, .p (.mov (.t 12)), none⟩,
    ⟨some 14, .p (.fieldA 1 (.t 1)), (some (13, false))⟩,
    ⟨some 15, .h (.load false 1 (.t 14)), (some (13, false))⟩,
    ⟨some 16, .p (.len false (.t 15)), (some (13, false))⟩,
    ⟨some 17, .p (.bin .gtr (.t 16) (.c (.int .i64 64))), (some (13, false))⟩,
    ⟨some 18, .p (.pick (.t 13) (.c (.bool true)) (.t 17)), none⟩])
  (.cond (.t 18) (.seq (.reg [⟨some 2, .p (.mov (.c (.bool false))), none⟩])
  .ret) .skip))
  (.seq (.seq (.reg [⟨some 19, .p (.fieldA 1 (.t 1)), none⟩,
    ⟨some 20, .h (.load false 1 (.t 19)), none⟩,
    ⟨some 21, .p (.len false (.t 20)), none⟩,
    ⟨some 22, .p (.mov (.c (.int .i64 0))), none⟩])
  (.block 0 (.loop (.seq (.reg [⟨some 23, .p (.bin .lss (.t 22) (.t 21)), none⟩])
  (.seq (.cond (.t 23) .skip (.exit 0))
  (.seq (.block 1 (.seq (.reg [⟨some 24, .p (.mov (.t 22)), none⟩,
    ⟨some 25, .p (.idxA 4 none (.t 20) (.t 22)), none⟩,
    ⟨some 26, .h (.load true 4 (.t 25)), none⟩,
    ⟨some 4, .h (.alloc [(.int .i64 0), (.int .i64 0), (.int .i64 0), (.int .i64 0)]), none⟩,
    ⟨some 3, .p (.mov (.t 24)), none⟩,
    ⟨none, .h (.store 4 (.t 4) (.t 26)), none⟩])
  (.seq (.draw 32 [(1, 6), (3, 6), (5, 6), (11, 12)] [⟨some 27, .p (.fieldA 0 (.t 4)), none⟩,
    ⟨some 28, .h (.load false 1 (.t 27)), none⟩,
    ⟨some 29, .p (.fieldA 1 (.t 4)), none⟩,
    ⟨some 30, .h (.load false 1 (.t 29)), none⟩,
    ⟨some 31, .p (.fieldA 2 (.t 4)), none⟩,
    ⟨some 32, .h (.load false 1 (.t 31)), none⟩,
    ⟨some 33, .d (.bslice 1 3 [(.int .i64 0)] [(0, (.t 28)), (1, (.t 30)), (2, (.t 32))]), none⟩,
    ⟨some 34, .call 30 [(.t 33)], none⟩,
    ⟨some 35, .p (.un .not (.t 34)), none⟩,
    ⟨some 36, .p (.mov (.t 35)), none⟩,
    ⟨some 37, .p (.fieldA 3 (.t 4)), (some (36, false))⟩,
    ⟨some 38, .h (.load false 1 (.t 37)), (some (36, false))⟩,
    ⟨some 39, .d (.bslice 1 1 [(.int .i64 0)] [(0, (.t 38))]), (some (36, false))⟩,
    ⟨some 40, .call 31 [(.t 39)], (some (36, false))⟩,
    ⟨some 41, .p (.un .not (.t 40)), (some (36, false))⟩,
    ⟨some 42, .p (.pick (.t 36) (.c (.bool true)) (.t 41)), none⟩,
    ⟨some 43, .p (.mov (.t 42)), none⟩,
    ⟨some 44, .p (.mov (.t 3)), (some (43, false))⟩,
    ⟨some 45, .p (.bin .gtr (.t 44) (.c (.int .i64 0))), (some (43, false))⟩,
    ⟨some 46, .p (.mov (.t 45)), (some (43, false))⟩,
    ⟨some 47, .p (.fieldA 0 (.t 4)), (some (46, true))⟩,
    ⟨some 48, .h (.load false 1 (.t 47)), (some (46, true))⟩,
    ⟨some 49, .p (.fieldA 1 (.t 1)), (some (46, true))⟩,
    ⟨some 50, .h (.load false 1 (.t 49)), (some (46, true))⟩,
    ⟨some 51, .p (.mov (.t 3)), (some (46, true))⟩,
    ⟨some 52, .p (.bin .sub (.t 51) (.c (.int .i64 1))), (some (46, true))⟩,
    ⟨some 53, .p (.idxA 4 none (.t 50) (.t 52)), (some (46, true))⟩,
    ⟨some 54, .p (.fieldA 0 (.t 53)), (some (46, true))⟩,
    ⟨some 55, .h (.load false 1 (.t 54)), (some (46, true))⟩,
    ⟨some 56, .p (.bin .leq (.t 48) (.t 55)), (some (46, true))⟩,
    ⟨some 57, .p (.pick (.t 46) (.t 56) (.c (.bool false))), (some (43, false))⟩,
    ⟨some 58, .p (.pick (.t 43) (.c (.bool true)) (.t 57)), none⟩])
  (.cond (.t 58) (.seq (.reg [⟨some 2, .p (.mov (.c (.bool false))), none⟩])
  .ret) .skip))))
  (.reg [⟨some 59, .p (.bin .add (.t 22) (.c (.int .i64 1))), none⟩,
    ⟨some 22, .p (.mov (.t 59)), none⟩])))))))
  (.seq (.reg [⟨some 2, .p (.mov (.c (.bool true))), none⟩])
  .ret))))
def rs27 : List AR := [.tmp 2]
theorem ok27 : okF Try.prog 27 60 ac27 rs27 = true := by kernel_rfl
/-- simulacrum/simulacrumref37.Hear -/
def ac28 : AC := (.seq (.reg [⟨some 2, .h (.box (.t 0)), none⟩,
    ⟨some 3, .h (.box (.t 1)), none⟩,
    ⟨some 4, .h (.alloc [(.int .i64 0), .nils, (.int .i64 0), (.int .i64 0), (.int .i64 0), (.int .i64 0), (.int .i64 0), (.int .i64 0), (.bool false), (.int .i64 0), (.int .i64 0), (.int .i64 0)]), none⟩])
  (.seq (.seq (.reg [⟨some 9, .h (.load true 5 (.t 3)), none⟩,
    ⟨some 10, .call 38 [(.t 9)], none⟩,
    ⟨some 11, .p (.un .not (.t 10)), none⟩])
  (.cond (.t 11) (.seq (.reg [⟨some 12, .h (.load true 2 (.t 2)), none⟩,
    ⟨some 13, .v (.build [(.int .i64 0), .nils, (.int .i64 0), (.int .i64 0), (.int .i64 0), (.int .i64 0), (.int .i64 0), (.int .i64 0), (.bool false), (.int .i64 0), (.int .i64 0), (.int .i64 0)] [(0, 2, (.t 12)), (11, 1, (.c (.int .i64 1)))]), none⟩,
    ⟨none, .h (.store 12 (.t 4) (.t 13)), none⟩])
  .ret) .skip))
  (.seq (.reg [⟨some 14, .p (.fieldA 1 (.t 2)), none⟩,
    ⟨some 15, .h (.load false 1 (.t 14)), none⟩,
    ⟨some 16, .p (.fieldA 1 (.t 3)), none⟩,
    ⟨some 17, .h (.load false 1 (.t 16)), none⟩,
    ⟨some 18, .call 39 [(.t 15), (.t 17)], none⟩,
    ⟨some 5, .p (.mov (.t 18)), none⟩])
  (.seq (.seq (.reg [⟨some 19, .p (.mov (.t 5)), none⟩,
    ⟨some 20, .p (.bin .lss (.t 19) (.c (.int .i64 0))), none⟩,
    ⟨some 21, .p (.mov (.t 20)), none⟩,
    ⟨some 22, .p (.fieldA 1 (.t 2)), (some (21, true))⟩,
    ⟨some 23, .h (.load false 1 (.t 22)), (some (21, true))⟩,
    ⟨some 24, .p (.len false (.t 23)), (some (21, true))⟩,
    ⟨some 25, .p (.bin .geq (.t 24) (.c (.int .i64 64))), (some (21, true))⟩,
    ⟨some 26, .p (.pick (.t 21) (.t 25) (.c (.bool false))), none⟩])
  (.cond (.t 26) (.seq (.reg [⟨some 27, .h (.load true 2 (.t 2)), none⟩,
    ⟨some 28, .v (.build [(.int .i64 0), .nils, (.int .i64 0), (.int .i64 0), (.int .i64 0), (.int .i64 0), (.int .i64 0), (.int .i64 0), (.bool false), (.int .i64 0), (.int .i64 0), (.int .i64 0)] [(0, 2, (.t 27)), (11, 1, (.c (.int .i64 2)))]), none⟩,
    ⟨none, .h (.store 12 (.t 4) (.t 28)), none⟩])
  .ret) .skip))
  (.seq (.reg [⟨some 29, .p (.fieldA 0 (.t 2)), none⟩,
    ⟨some 30, .h (.load false 1 (.t 29)), none⟩,
    ⟨some 31, .h (.load true 5 (.t 3)), none⟩,
    ⟨some 32, .v (.build [(.int .i64 0), (.int .i64 0), (.int .i64 0), (.int .i64 0), (.int .i64 0), (.int .i64 0), (.bool false), (.int .i64 0), (.int .i64 0)] [(0, 1, (.t 30)), (1, 5, (.t 31))]), none⟩,
    ⟨some 6, .h (.alloc [(.int .i64 0), (.int .i64 0), (.int .i64 0), (.int .i64 0), (.int .i64 0), (.int .i64 0), (.bool false), (.int .i64 0), (.int .i64 0)]), none⟩,
    ⟨none, .h (.store 9 (.t 6) (.t 32)), none⟩])
  (.seq (.seq (.reg [⟨some 33, .p (.mov (.t 5)), none⟩,
    ⟨some 34, .p (.bin .lss (.t 33) (.c (.int .i64 0))), none⟩])
  (.cond (.t 34) (.seq (.seq (.reg [⟨some 35, .p (.fieldA 0 (.t 3)), none⟩,
    ⟨some 36, .h (.load false 1 (.t 35)), none⟩,
    ⟨some 37, .p (.bin .eql (.t 36) (.c (.int .i64 2))), none⟩])
  (.cond (.t 37) (.seq (.reg [⟨some 38, .h (.load true 2 (.t 2)), none⟩,
    ⟨some 39, .h (.load true 9 (.t 6)), none⟩,
    ⟨some 40, .v (.build [(.int .i64 0), .nils, (.int .i64 0), (.int .i64 0), (.int .i64 0), (.int .i64 0), (.int .i64 0), (.int .i64 0), (.bool false), (.int .i64 0), (.int .i64 0), (.int .i64 0)] [(0, 2, (.t 38)), (2, 9, (.t 39))]), none⟩,
    ⟨none, .h (.store 12 (.t 4) (.t 40)), none⟩])
  .ret) .skip))
  (.seq (.reg [⟨some 41, .p (.fieldA 6 (.t 6)), none⟩,
    ⟨none, .h (.store 1 (.t 41) (.c (.bool true))), none⟩])
  (.seq (.reg [⟨some 42, .p (.fieldA 3 (.t 3)), none⟩,
    ⟨some 43, .h (.load false 1 (.t 42)), none⟩,
    ⟨some 44, .p (.fieldA 7 (.t 6)), none⟩,
    ⟨none, .h (.store 1 (.t 44) (.t 43)), none⟩])
  (.seq (.draw 16 [(1, 15), (3, 15), (5, 15), (7, 15), (9, 15), (13, 15)] [⟨some 45, .p (.fieldA 0 (.t 2)), none⟩,
    ⟨some 46, .h (.load false 1 (.t 45)), none⟩,
    ⟨some 47, .p (.fieldA 1 (.t 2)), none⟩,
    ⟨some 48, .h (.load false 1 (.t 47)), none⟩,
    ⟨some 49, .p (.fieldA 1 (.t 3)), none⟩,
    ⟨some 50, .h (.load false 1 (.t 49)), none⟩,
    ⟨some 51, .p (.fieldA 3 (.t 3)), none⟩,
    ⟨some 52, .h (.load false 1 (.t 51)), none⟩,
    ⟨some 53, .p (.fieldA 2 (.t 3)), none⟩,
    ⟨some 54, .h (.load false 1 (.t 53)), none⟩,
    ⟨some 55, .v (.build [(.int .i64 0), (.int .i64 0), (.int .i64 0), (.int .i64 0)] [(0, 1, (.t 50)), (1, 1, (.t 52)), (2, 1, (.t 54))]), none⟩,
    ⟨some 56, .call 40 [(.t 48), (.t 55)], none⟩,
    ⟨some 57, .v (.build [(.int .i64 0), .nils] [(0, 1, (.t 46)), (1, 1, (.t 56))]), none⟩,
    ⟨some 58, .h (.load true 9 (.t 6)), none⟩,
    ⟨some 59, .v (.build [(.int .i64 0), .nils, (.int .i64 0), (.int .i64 0), (.int .i64 0), (.int .i64 0), (.int .i64 0), (.int .i64 0), (.bool false), (.int .i64 0), (.int .i64 0), (.int .i64 0)] [(0, 2, (.t 57)), (2, 9, (.t 58))]), none⟩,
    ⟨none, .h (.store 12 (.t 4) (.t 59)), none⟩])
  .ret)))) .skip))
  (.seq (.draw 9 [(2, 5), (4, 5), (7, 8), (5, 8), (1, 8), (2, 8), (4, 8)] [⟨some 60, .p (.fieldA 0 (.t 2)), none⟩,
    ⟨some 61, .h (.load false 1 (.t 60)), none⟩,
    ⟨some 62, .d (.bslice 4 0 [(.int .i64 0), (.int .i64 0), (.int .i64 0), (.int .i64 0)] []), none⟩,
    ⟨some 63, .p (.fieldA 1 (.t 2)), none⟩,
    ⟨some 64, .h (.load false 1 (.t 63)), none⟩,
    ⟨some 65, .l (.append 4 32 (.t 62) (.t 64)), none⟩,
    ⟨some 66, .v (.build [(.int .i64 0), .nils] [(0, 1, (.t 61)), (1, 1, (.t 65))]), none⟩,
    ⟨some 7, .h (.alloc [(.int .i64 0), .nils]), none⟩,
    ⟨none, .h (.store 2 (.t 7) (.t 66)), none⟩])
  (.seq (.reg [⟨some 67, .p (.fieldA 1 (.t 7)), none⟩,
    ⟨some 68, .h (.load false 1 (.t 67)), none⟩,
    ⟨some 69, .p (.mov (.t 5)), none⟩,
    ⟨some 70, .p (.idxA 4 none (.t 68) (.t 69)), none⟩,
    ⟨some 71, .h (.load true 4 (.t 70)), none⟩,
    ⟨some 8, .h (.alloc [(.int .i64 0), (.int .i64 0), (.int .i64 0), (.int .i64 0)]), none⟩,
    ⟨none, .h (.store 4 (.t 8) (.t 71)), none⟩])
  (.seq (.seq (.reg [⟨some 72, .p (.fieldA 0 (.t 3)), none⟩,
    ⟨some 73, .h (.load false 1 (.t 72)), none⟩,
    ⟨some 74, .p (.bin .eql (.t 73) (.c (.int .i64 1))), none⟩,
    ⟨some 75, .p (.mov (.t 74)), none⟩,
    ⟨some 76, .p (.fieldA 3 (.t 3)), (some (75, true))⟩,
    ⟨some 77, .h (.load false 1 (.t 76)), (some (75, true))⟩,
    ⟨some 78, .p (.fieldA 1 (.t 8)), (some (75, true))⟩,
    ⟨some 79, .h (.load false 1 (.t 78)), (some (75, true))⟩,
    ⟨some 80, .p (.bin .gtr (.t 77) (.t 79)), (some (75, true))⟩,
    ⟨some 81, .p (.pick (.t 75) (.t 80) (.c (.bool false))), none⟩])
  (.cond (.t 81) (.seq (.reg [⟨some 82, .p (.fieldA 3 (.t 3)), none⟩,
    ⟨some 83, .h (.load false 1 (.t 82)), none⟩,
    ⟨some 84, .p (.fieldA 1 (.t 8)), none⟩,
    ⟨none, .h (.store 1 (.t 84) (.t 83)), none⟩])
  (.reg [⟨some 85, .p (.fieldA 2 (.t 3)), none⟩,
    ⟨some 86, .h (.load false 1 (.t 85)), none⟩,
    ⟨some 87, .p (.fieldA 2 (.t 8)), none⟩,
    ⟨none, .h (.store 1 (.t 87) (.t 86)), none⟩])) .skip))
  (.seq (.reg [⟨some 88, .p (.fieldA 1 (.t 8)), none⟩,
    ⟨some 89, .h (.load false 1 (.t 88)), none⟩,
    ⟨some 90, .p (.fieldA 3 (.t 3)), none⟩,
    ⟨some 91, .h (.load false 1 (.t 90)), none⟩,
    ⟨some 92, .p (.bin .eql (.t 89) (.t 91)), none⟩,
    ⟨some 93, .p (.mov (.t 92)), none⟩,
    ⟨some 94, .p (.fieldA 2 (.t 8)), (some (93, true))⟩,
    ⟨some 95, .h (.load false 1 (.t 94)), (some (93, true))⟩,
    ⟨some 96, .p (.fieldA 2 (.t 3)), (some (93, true))⟩,
    ⟨some 97, .h (.load false 1 (.t 96)), (some (93, true))⟩,
    ⟨some 98, .p (.bin .eql (.t 95) (.t 97)), (some (93, true))⟩,
    ⟨some 99, .p (.pick (.t 93) (.t 98) (.c (.bool false))), none⟩,
    ⟨some 100, .p (.fieldA 6 (.t 6)), none⟩,
    ⟨none, .h (.store 1 (.t 100) (.t 99)), none⟩])
  (.seq (.seq (.reg [⟨some 101, .p (.fieldA 0 (.t 3)), none⟩,
    ⟨some 102, .h (.load false 1 (.t 101)), none⟩,
    ⟨some 103, .p (.bin .eql (.t 102) (.c (.int .i64 2))), none⟩,
    ⟨some 104, .p (.mov (.t 103)), none⟩,
    ⟨some 105, .p (.fieldA 6 (.t 6)), (some (104, true))⟩,
    ⟨some 106, .h (.load false 1 (.t 105)), (some (104, true))⟩,
    ⟨some 107, .p (.pick (.t 104) (.t 106) (.c (.bool false))), none⟩])
  (.cond (.t 107) (.reg [⟨some 108, .p (.fieldA 3 (.t 8)), none⟩,
    ⟨some 109, .h (.load false 1 (.t 108)), none⟩,
    ⟨some 110, .p (.fieldA 4 (.t 3)), none⟩,
    ⟨some 111, .h (.load false 1 (.t 110)), none⟩,
    ⟨some 112, .p (.mm true (.t 109) (.t 111)), none⟩,
    ⟨some 113, .p (.fieldA 3 (.t 8)), none⟩,
    ⟨none, .h (.store 1 (.t 113) (.t 112)), none⟩]) .skip))
  (.seq (.reg [⟨some 114, .p (.fieldA 1 (.t 7)), none⟩,
    ⟨some 115, .h (.load false 1 (.t 114)), none⟩,
    ⟨some 116, .p (.mov (.t 5)), none⟩,
    ⟨some 117, .h (.load true 4 (.t 8)), none⟩,
    ⟨some 118, .p (.idxA 4 none (.t 115) (.t 116)), none⟩,
    ⟨none, .h (.store 4 (.t 118) (.t 117)), none⟩])
  (.seq (.reg [⟨some 119, .p (.fieldA 1 (.t 8)), none⟩,
    ⟨some 120, .h (.load false 1 (.t 119)), none⟩,
    ⟨some 121, .p (.fieldA 7 (.t 6)), none⟩,
    ⟨none, .h (.store 1 (.t 121) (.t 120)), none⟩])
  (.seq (.reg [⟨some 122, .p (.fieldA 3 (.t 8)), none⟩,
    ⟨some 123, .h (.load false 1 (.t 122)), none⟩,
    ⟨some 124, .p (.fieldA 8 (.t 6)), none⟩,
    ⟨none, .h (.store 1 (.t 124) (.t 123)), none⟩])
  (.seq (.reg [⟨some 125, .h (.load true 2 (.t 7)), none⟩,
    ⟨some 126, .h (.load true 9 (.t 6)), none⟩,
    ⟨some 127, .v (.build [(.int .i64 0), .nils, (.int .i64 0), (.int .i64 0), (.int .i64 0), (.int .i64 0), (.int .i64 0), (.int .i64 0), (.bool false), (.int .i64 0), (.int .i64 0), (.int .i64 0)] [(0, 2, (.t 125)), (2, 9, (.t 126))]), none⟩,
    ⟨none, .h (.store 12 (.t 4) (.t 127)), none⟩])
  .ret)))))))))))))))
def rs28 : List AR := [.cell 4 true 12]
theorem ok28 : okF Try.prog 28 128 ac28 rs28 = true := by kernel_rfl
/-- simulacrum/token.number -/
def ac30 : AC := (.seq (.reg [⟨some 2, .p (.mov (.c (.bool false))), none⟩])
  (.seq (.seq (.reg [⟨some 5, .p (.mov (.t 0)), none⟩,
    ⟨some 6, .p (.len false (.t 5)), none⟩,
    ⟨some 7, .p (.mov (.c (.int .i64 0))), none⟩])
  (.block 0 (.loop (.seq (.reg [⟨some 8, .p (.bin .lss (.t 7) (.t 6)), none⟩])
  (.seq (.cond (.t 8) .skip (.exit 0))
  (.seq (.block 1 (.seq (.reg [⟨some 9, .p (.idxA 1 none (.t 5) (.t 7)), none⟩,
    ⟨some 10, .h (.load false 1 (.t 9)), none⟩,
    ⟨some 4, .p (.mov (.t 10)), none⟩])
  (.seq (.reg [⟨some 11, .p (.mov (.t 4)), none⟩,
    ⟨some 12, .p (.bin .lss (.t 11) (.c (.int .i64 1))), none⟩,
    ⟨some 13, .p (.mov (.t 12)), none⟩,
    ⟨some 14, .p (.mov (.t 4)), (some (13, false))⟩,
    ⟨some 15, .p (.bin .gtr (.t 14) (.c (.int .i64 1073741824))), (some (13, false))⟩,
    ⟨some 16, .p (.pick (.t 13) (.c (.bool true)) (.t 15)), none⟩])
  (.cond (.t 16) (.seq (.reg [⟨some 2, .p (.mov (.c (.bool false))), none⟩])
  .ret) .skip))))
  (.reg [⟨some 17, .p (.bin .add (.t 7) (.c (.int .i64 1))), none⟩,
    ⟨some 7, .p (.mov (.t 17)), none⟩])))))))
  (.seq (.reg [⟨some 2, .p (.mov (.c (.bool true))), none⟩])
  .ret)))
def rs30 : List AR := [.tmp 2]
theorem ok30 : okF Try.prog 30 18 ac30 rs30 = true := by kernel_rfl
/-- simulacrum/token.serial -/
def ac31 : AC := (.seq (.reg [⟨some 2, .p (.mov (.c (.bool false))), none⟩])
  (.seq (.seq (.reg [⟨some 5, .p (.mov (.t 0)), none⟩,
    ⟨some 6, .p (.len false (.t 5)), none⟩,
    ⟨some 7, .p (.mov (.c (.int .i64 0))), none⟩])
  (.block 0 (.loop (.seq (.reg [⟨some 8, .p (.bin .lss (.t 7) (.t 6)), none⟩])
  (.seq (.cond (.t 8) .skip (.exit 0))
  (.seq (.block 1 (.seq (.reg [⟨some 9, .p (.idxA 1 none (.t 5) (.t 7)), none⟩,
    ⟨some 10, .h (.load false 1 (.t 9)), none⟩,
    ⟨some 4, .p (.mov (.t 10)), none⟩])
  (.seq (.reg [⟨some 11, .p (.mov (.t 4)), none⟩,
    ⟨some 12, .p (.bin .lss (.t 11) (.c (.int .i64 0))), none⟩,
    ⟨some 13, .p (.mov (.t 12)), none⟩,
    ⟨some 14, .p (.mov (.t 4)), (some (13, false))⟩,
    ⟨some 15, .p (.bin .gtr (.t 14) (.c (.int .i64 1099511627776))), (some (13, false))⟩,
    ⟨some 16, .p (.pick (.t 13) (.c (.bool true)) (.t 15)), none⟩])
  (.cond (.t 16) (.seq (.reg [⟨some 2, .p (.mov (.c (.bool false))), none⟩])
  .ret) .skip))))
  (.reg [⟨some 17, .p (.bin .add (.t 7) (.c (.int .i64 1))), none⟩,
    ⟨some 7, .p (.mov (.t 17)), none⟩])))))))
  (.seq (.reg [⟨some 2, .p (.mov (.c (.bool true))), none⟩])
  .ret)))
def rs31 : List AR := [.tmp 2]
theorem ok31 : okF Try.prog 31 18 ac31 rs31 = true := by kernel_rfl
/-- sort.Ints -/
def ac32 : AC := (.reg [⟨some 2, .p (.mov (.t 0)), none⟩,
    ⟨some 3, .call 41 [(.t 2)], none⟩])
def rs32 : List AR := []
theorem ok32 : okF Try.prog 32 4 ac32 rs32 = true := by kernel_rfl
/-- simulacrum/simulacrumref37.number -/
def ac33 : AC := (.seq (.reg [⟨some 2, .p (.mov (.c (.bool false))), none⟩])
  (.seq (.reg [⟨some 3, .p (.mov (.t 0)), none⟩,
    ⟨some 4, .p (.bin .geq (.t 3) (.c (.int .i64 1))), none⟩,
    ⟨some 5, .p (.mov (.t 4)), none⟩,
    ⟨some 6, .p (.mov (.t 0)), (some (5, true))⟩,
    ⟨some 7, .p (.bin .leq (.t 6) (.c (.int .i64 1073741824))), (some (5, true))⟩,
    ⟨some 8, .p (.pick (.t 5) (.t 7) (.c (.bool false))), none⟩,
    ⟨some 2, .p (.mov (.t 8)), none⟩])
  .ret))
def rs33 : List AR := [.tmp 2]
theorem ok33 : okF Try.prog 33 9 ac33 rs33 = true := by kernel_rfl
/-- simulacrum/simulacrumref37.serial -/
def ac34 : AC := (.seq (.reg [⟨some 2, .p (.mov (.c (.bool false))), none⟩])
  (.seq (.reg [⟨some 3, .p (.mov (.t 0)), none⟩,
    ⟨some 4, .p (.bin .geq (.t 3) (.c (.int .i64 0))), none⟩,
    ⟨some 5, .p (.mov (.t 4)), none⟩,
    ⟨some 6, .p (.mov (.t 0)), (some (5, true))⟩,
    ⟨some 7, .p (.bin .leq (.t 6) (.c (.int .i64 1099511627776))), (some (5, true))⟩,
    ⟨some 8, .p (.pick (.t 5) (.t 7) (.c (.bool false))), none⟩,
    ⟨some 2, .p (.mov (.t 8)), none⟩])
  .ret))
def rs34 : List AR := [.tmp 2]
theorem ok34 : okF Try.prog 34 9 ac34 rs34 = true := by kernel_rfl
/-- simulacrum/token.right -/
def ac35 : AC := (.seq (.reg [⟨some 1, .h (.box (.t 0)), none⟩,
    ⟨some 2, .p (.mov (.c (.bool false))), none⟩])
  (.seq (.reg [⟨some 4, .p (.fieldA 1 (.t 1)), none⟩,
    ⟨some 5, .h (.load false 1 (.t 4)), none⟩,
    ⟨some 6, .p (.fieldA 2 (.t 1)), none⟩,
    ⟨some 7, .h (.load false 1 (.t 6)), none⟩,
    ⟨some 8, .p (.fieldA 3 (.t 1)), none⟩,
    ⟨some 9, .h (.load false 1 (.t 8)), none⟩,
    ⟨some 10, .v (.build [(.int .i64 0), (.int .i64 0), (.int .i64 0), (.int .i64 0), (.int .i64 0)] [(0, 1, (.c (.int .i64 1))), (1, 1, (.t 5)), (2, 1, (.t 7)), (3, 1, (.t 9))]), none⟩,
    ⟨some 3, .h (.alloc [(.int .i64 0), (.int .i64 0), (.int .i64 0), (.int .i64 0), (.int .i64 0)]), none⟩,
    ⟨none, .h (.store 5 (.t 3) (.t 10)), none⟩])
  (.seq (.reg [⟨some 11, .h (.load true 5 (.t 1)), none⟩,
    ⟨some 12, .h (.load true 5 (.t 3)), none⟩,
    ⟨some 13, .v (.eqa false [(.i .i64), (.i .i64), (.i .i64), (.i .i64), (.i .i64)] (.t 11) (.t 12)), none⟩,
    ⟨some 14, .p (.mov (.t 13)), none⟩,
    ⟨some 15, .p (.fieldA 0 (.t 1)), (some (14, false))⟩,
    ⟨some 16, .h (.load false 1 (.t 15)), (some (14, false))⟩,
    ⟨some 17, .p (.bin .eql (.t 16) (.c (.int .i64 2))), (some (14, false))⟩,
    ⟨some 18, .p (.pick (.t 14) (.c (.bool true)) (.t 17)), none⟩,
    ⟨some 19, .p (.mov (.t 18)), none⟩,
    ⟨some 20, .p (.fieldA 1 (.t 1)), (some (19, true))⟩,
    ⟨some 21, .h (.load false 1 (.t 20)), (some (19, true))⟩,
    ⟨some 22, .p (.fieldA 2 (.t 1)), (some (19, true))⟩,
    ⟨some 23, .h (.load false 1 (.t 22)), (some (19, true))⟩,
    ⟨some 24, .p (.fieldA 3 (.t 1)), (some (19, true))⟩,
    ⟨some 25, .h (.load false 1 (.t 24)), (some (19, true))⟩,
    ⟨some 26, .d (.bslice 1 3 [(.int .i64 0)] [(0, (.t 21)), (1, (.t 23)), (2, (.t 25))]), (some (19, true))⟩,
    ⟨some 27, .call 30 [(.t 26)], (some (19, true))⟩,
    ⟨some 28, .p (.pick (.t 19) (.t 27) (.c (.bool false))), none⟩,
    ⟨some 29, .p (.mov (.t 28)), none⟩,
    ⟨some 30, .p (.fieldA 4 (.t 1)), (some (29, true))⟩,
    ⟨some 31, .h (.load false 1 (.t 30)), (some (29, true))⟩,
    ⟨some 32, .d (.bslice 1 1 [(.int .i64 0)] [(0, (.t 31))]), (some (29, true))⟩,
    ⟨some 33, .call 31 [(.t 32)], (some (29, true))⟩,
    ⟨some 34, .p (.pick (.t 29) (.t 33) (.c (.bool false))), none⟩,
    ⟨some 2, .p (.mov (.t 34)), none⟩])
  .ret)))
def rs35 : List AR := [.tmp 2]
theorem ok35 : okF Try.prog 35 35 ac35 rs35 = true := by kernel_rfl
/-- sort.Search -/
def ac36 : AC := (.seq (.reg [⟨some 4, .p (.mov (.c (.int .i64 0))), none⟩])
  (.seq (.reg [⟨some 8, .p (.mov (.t 0)), none⟩,
    ⟨some 5, .p (.mov (.c (.int .i64 0))), none⟩,
    ⟨some 6, .p (.mov (.t 8)), none⟩])
  (.seq (.block 0 (.loop (.seq (.seq (.reg [⟨some 9, .p (.mov (.t 5)), none⟩,
    ⟨some 10, .p (.mov (.t 6)), none⟩,
    ⟨some 11, .p (.bin .lss (.t 9) (.t 10)), none⟩])
  (.cond (.t 11) .skip (.exit 0)))
  (.block 1 (.seq (.reg [⟨some 12, .p (.mov (.t 5)), none⟩,
    ⟨some 13, .p (.mov (.t 6)), none⟩,
    ⟨some 14, .p (.bin .add (.t 12) (.t 13)), none⟩,
    ⟨some 15, .p (.convw .u64 (.t 14)), none⟩,
    ⟨some 16, .p (.binw .shr (.t 15) (.c (.int .u64 1))), none⟩,
    ⟨some 17, .p (.convw .i64 (.t 16)), none⟩,
    ⟨some 7, .p (.mov (.t 17)), none⟩])
  (.seq (.reg [⟨some 18, .p (.mov (.t 1)), none⟩,
    ⟨some 19, .p (.mov (.t 7)), none⟩,
    ⟨some 20, .callv (.t 18) [(.t 19)], none⟩,
    ⟨some 21, .p (.un .not (.t 20)), none⟩])
  (.cond (.t 21) (.reg [⟨some 22, .p (.mov (.t 7)), none⟩,
    ⟨some 23, .p (.bin .add (.t 22) (.c (.int .i64 1))), none⟩,
    ⟨some 5, .p (.mov (.t 23)), none⟩]) (.reg [⟨some 24, .p (.mov (.t 7)), none⟩,
    ⟨some 6, .p (.mov (.t 24)), none⟩]))))))))
  (.seq (.reg [⟨some 25, .p (.mov (.t 5)), none⟩,
    ⟨some 4, .p (.mov (.t 25)), none⟩])
  .ret))))
def rs36 : List AR := [.tmp 4]
theorem ok36 : okF Try.prog 36 26 ac36 rs36 = true := by kernel_rfl
/-- simulacrum/token.Hear$1 -/
def ac37 : AC := (.seq (.reg [⟨some 4, .p (.mov (.c (.bool false))), none⟩])
  (.seq (.draw 10 [] [⟨some 5, .p (.fieldA 1 (.t 1)), none⟩,
    ⟨some 6, .h (.load false 1 (.t 5)), none⟩,
    ⟨some 7, .p (.mov (.t 0)), none⟩,
    ⟨some 8, .p (.idxA 4 none (.t 6) (.t 7)), none⟩,
    ⟨some 9, .p (.fieldA 0 (.t 8)), none⟩,
    ⟨some 10, .h (.load false 1 (.t 9)), none⟩,
    ⟨some 11, .p (.fieldA 1 (.t 2)), none⟩,
    ⟨some 12, .h (.load false 1 (.t 11)), none⟩,
    ⟨some 13, .p (.bin .geq (.t 10) (.t 12)), none⟩,
    ⟨some 4, .p (.mov (.t 13)), none⟩])
  .ret))
def rs37 : List AR := [.tmp 4]
theorem ok37 : okF Try.prog 37 14 ac37 rs37 = true := by kernel_rfl
/-- simulacrum/simulacrumref37.Plea -/
def ac38 : AC := (.seq (.reg [⟨some 1, .h (.box (.t 0)), none⟩,
    ⟨some 2, .p (.mov (.c (.bool false))), none⟩])
  (.seq (.seq (.reg [⟨some 3, .p (.fieldA 0 (.t 1)), none⟩,
    ⟨some 4, .h (.load false 1 (.t 3)), none⟩,
    ⟨some 5, .p (.bin .neq (.t 4) (.c (.int .i64 1))), none⟩,
    ⟨some 6, .p (.mov (.t 5)), none⟩,
    ⟨some 7, .p (.fieldA 0 (.t 1)), (some (6, true))⟩,
    ⟨some 8, .h (.load false 1 (.t 7)), (some (6, true))⟩,
    ⟨some 9, .p (.bin .neq (.t 8) (.c (.int .i64 2))), (some (6, true))⟩,
    ⟨some 10, .p (.pick (.t 6) (.t 9) (.c (.bool false))), none⟩,
    ⟨some 11, .p (.mov (.t 10)), none⟩,
    ⟨some 12, .p (.fieldA 1 (.t 1)), (some (11, false))⟩,
    ⟨some 13, .h (.load false 1 (.t 12)), (some (11, false))⟩,
    ⟨some 14, .call 33 [(.t 13)], (some (11, false))⟩,
    ⟨some 15, .p (.un .not (.t 14)), (some (11, false))⟩,
    ⟨some 16, .p (.pick (.t 11) (.c (.bool true)) (.t 15)), none⟩,
    ⟨some 17, .p (.mov (.t 16)), none⟩,
    ⟨some 18, .p (.fieldA 2 (.t 1)), (some (17, false))⟩,
    ⟨some 19, .h (.load false 1 (.t 18)), (some (17, false))⟩,
    ⟨some 20, .call 33 [(.t 19)], (some (17, false))⟩,
    ⟨some 21, .p (.un .not (.t 20)), (some (17, false))⟩,
    ⟨some 22, .p (.pick (.t 17) (.c (.bool true)) (.t 21)), none⟩,
    ⟨some 23, .p (.mov (.t 22)), none⟩,
    ⟨some 24, .p (.fieldA 3 (.t 1)), (some (23, false))⟩,
    ⟨some 25, .h (.load false 1 (.t 24)), (some (23, false))⟩,
    ⟨some 26, .call 33 [(.t 25)], (some (23, false))⟩,
    ⟨some 27, .p (.un .not (.t 26)), (some (23, false))⟩,
    ⟨some 28, .p (.pick (.t 23) (.c (.bool true)) (.t 27)), none⟩])
  (.cond (.t 28) (.seq (.reg [⟨some 2, .p (.mov (.c (.bool false))), none⟩])
  .ret) .skip))
  (.seq (.reg [⟨some 29, .p (.fieldA 4 (.t 1)), none⟩,
    ⟨some 30, .h (.load false 1 (.t 29)), none⟩,
    ⟨some 31, .call 34 [(.t 30)], none⟩,
    ⟨some 32, .p (.mov (.t 31)), none⟩,
    ⟨some 33, .p (.fieldA 0 (.t 1)), (some (32, true))⟩,
    ⟨some 34, .h (.load false 1 (.t 33)), (some (32, true))⟩,
    ⟨some 35, .p (.bin .eql (.t 34) (.c (.int .i64 2))), (some (32, true))⟩,
    ⟨some 36, .p (.mov (.t 35)), (some (32, true))⟩,
    ⟨some 37, .p (.fieldA 4 (.t 1)), (some (36, false))⟩,
    ⟨some 38, .h (.load false 1 (.t 37)), (some (36, false))⟩,
    ⟨some 39, .p (.bin .eql (.t 38) (.c (.int .i64 0))), (some (36, false))⟩,
    ⟨some 40, .p (.pick (.t 36) (.c (.bool true)) (.t 39)), (some (32, true))⟩,
    ⟨some 41, .p (.pick (.t 32) (.t 40) (.c (.bool false))), none⟩,
    ⟨some 2, .p (.mov (.t 41)), none⟩])
  .ret)))
def rs38 : List AR := [.tmp 2]
theorem ok38 : okF Try.prog 38 42 ac38 rs38 = true := by kernel_rfl
/-- simulacrum/simulacrumref37.place -/
def ac39 : AC := (.seq (.reg [⟨some 4, .p (.mov (.c (.int .i64 0))), none⟩])
  (.seq (.seq (.reg [⟨some 5, .p (.mov (.c (.int .i64 0))), none⟩])
  (.block 0 (.loop (.seq (.seq (.reg [⟨some 6, .p (.mov (.t 5)), none⟩,
    ⟨some 7, .p (.mov (.t 0)), none⟩,
    ⟨some 8, .p (.len false (.t 7)), none⟩,
    ⟨some 9, .p (.bin .lss (.t 6) (.t 8)), none⟩])
  (.cond (.t 9) .skip (.exit 0)))
  (.seq (.block 1 (.seq (.reg [⟨some 12, .p (.mov (.t 0)), none⟩,
    ⟨some 13, .p (.mov (.t 5)), none⟩,
    ⟨some 14, .p (.idxA 4 none (.t 12) (.t 13)), none⟩,
    ⟨some 15, .p (.fieldA 0 (.t 14)), none⟩,
    ⟨some 16, .h (.load false 1 (.t 15)), none⟩,
    ⟨some 17, .p (.mov (.t 1)), none⟩,
    ⟨some 18, .p (.bin .eql (.t 16) (.t 17)), none⟩])
  (.cond (.t 18) (.seq (.reg [⟨some 19, .p (.mov (.t 5)), none⟩,
    ⟨some 4, .p (.mov (.t 19)), none⟩])
  .ret) .skip)))
  (.reg [⟨some 10, .p (.mov (.t 5)), none⟩,
    ⟨some 11, .p (.bin .add (.t 10) (.c (.int .i64 1))), none⟩,
    ⟨some 5, .p (.mov (.t 11)), none⟩]))))))
  (.seq (.reg [⟨some 4, .p (.mov (.c (.int .i64 (-1)))), none⟩])
  .ret)))
def rs39 : List AR := [.tmp 4]
theorem ok39 : okF Try.prog 39 20 ac39 rs39 = true := by kernel_rfl
/-- simulacrum/simulacrumref37.with -/
def ac40 : AC := (.seq (.reg [⟨some 3, .h (.box (.t 1)), none⟩,
    ⟨some 4, .p (.mov (.c .nils)), none⟩])
  (.seq (.reg [⟨some 5, .p (.mov (.c .nils)), none⟩])
  (.seq (.reg [⟨some 6, .p (.mov (.c (.bool false))), none⟩])
  (.seq (.seq (.reg [⟨some 7, .p (.mov (.c (.int .i64 0))), none⟩])
  (.block 0 (.loop (.seq (.seq (.reg [⟨some 8, .p (.mov (.t 7)), none⟩,
    ⟨some 9, .p (.mov (.t 0)), none⟩,
    ⟨some 10, .p (.len false (.t 9)), none⟩,
    ⟨some 11, .p (.bin .lss (.t 8) (.t 10)), none⟩])
  (.cond (.t 11) .skip (.exit 0)))
  (.seq (.block 1 (.seq (.seq (.draw 12 [] [⟨some 14, .p (.mov (.t 6)), none⟩,
    ⟨some 15, .p (.un .not (.t 14)), none⟩,
    ⟨some 16, .p (.mov (.t 15)), none⟩,
    ⟨some 17, .p (.mov (.t 0)), (some (16, true))⟩,
    ⟨some 18, .p (.mov (.t 7)), (some (16, true))⟩,
    ⟨some 19, .p (.idxA 4 none (.t 17) (.t 18)), (some (16, true))⟩,
    ⟨some 20, .p (.fieldA 0 (.t 19)), (some (16, true))⟩,
    ⟨some 21, .h (.load false 1 (.t 20)), (some (16, true))⟩,
    ⟨some 22, .p (.fieldA 0 (.t 3)), (some (16, true))⟩,
    ⟨some 23, .h (.load false 1 (.t 22)), (some (16, true))⟩,
    ⟨some 24, .p (.bin .gtr (.t 21) (.t 23)), (some (16, true))⟩,
    ⟨some 25, .p (.pick (.t 16) (.t 24) (.c (.bool false))), none⟩])
  (.cond (.t 25) (.seq (.reg [⟨some 26, .p (.mov (.t 5)), none⟩,
    ⟨some 27, .h (.load true 4 (.t 3)), none⟩,
    ⟨some 28, .d (.bslice 4 1 [(.int .i64 0), (.int .i64 0), (.int .i64 0), (.int .i64 0)] [(0, (.t 27))]), none⟩,
    ⟨some 29, .l (.append 4 32 (.t 26) (.t 28)), none⟩,
    ⟨some 5, .p (.mov (.t 29)), none⟩])
  (.reg [⟨some 6, .p (.mov (.c (.bool true))), none⟩])) .skip))
  (.reg [⟨some 30, .p (.mov (.t 5)), none⟩,
    ⟨some 31, .p (.mov (.t 0)), none⟩,
    ⟨some 32, .p (.mov (.t 7)), none⟩,
    ⟨some 33, .p (.idxA 4 none (.t 31) (.t 32)), none⟩,
    ⟨some 34, .h (.load true 4 (.t 33)), none⟩,
    ⟨some 35, .d (.bslice 4 1 [(.int .i64 0), (.int .i64 0), (.int .i64 0), (.int .i64 0)] [(0, (.t 34))]), none⟩,
    ⟨some 36, .l (.append 4 32 (.t 30) (.t 35)), none⟩,
    ⟨some 5, .p (.mov (.t 36)), none⟩])))
  (.reg [⟨some 12, .p (.mov (.t 7)), none⟩,
    ⟨some 13, .p (.bin .add (.t 12) (.c (.int .i64 1))), none⟩,
    ⟨some 7, .p (.mov (.t 13)), none⟩]))))))
  (.seq (.seq (.reg [⟨some 37, .p (.mov (.t 6)), none⟩,
    ⟨some 38, .p (.un .not (.t 37)), none⟩])
  (.cond (.t 38) (.reg [⟨some 39, .p (.mov (.t 5)), none⟩,
    ⟨some 40, .h (.load true 4 (.t 3)), none⟩,
    ⟨some 41, .d (.bslice 4 1 [(.int .i64 0), (.int .i64 0), (.int .i64 0), (.int .i64 0)] [(0, (.t 40))]), none⟩,
    ⟨some 42, .l (.append 4 32 (.t 39) (.t 41)), none⟩,
    ⟨some 5, .p (.mov (.t 42)), none⟩]) .skip))
  (.seq (.reg [⟨some 43, .p (.mov (.t 5)), none⟩,
    ⟨some 4, .p (.mov (.t 43)), none⟩])
  .ret))))))
def rs40 : List AR := [.tmp 4]
theorem ok40 : okF Try.prog 40 44 ac40 rs40 = true := by kernel_rfl
end Go.Proofs

namespace Go.Proofs
open Go Go.Eng
set_option maxRecDepth 100000

/-! What the chapter's values are, in plain Lean. -/
structure Hol where
  (m h e : Int) (g0 g1 g2 : Bool) (s a0 a1 a2 r : Int)
structure Ple where
  (k m h e u : Int)
structure Gra where
  (w : Int) (p : Ple) (ag : Bool) (e u : Int)
abbrev I (n : Int) : AV := .int .i64 n
def Hol.av (x : Hol) : List AV := [I x.m, I x.h, I x.e, .bool x.g0, .bool x.g1, .bool x.g2, I x.s, I x.a0, I x.a1, I x.a2, I x.r]
def Ple.av (x : Ple) : List AV := [I x.k, I x.m, I x.h, I x.e, I x.u]
def Gra.av (x : Gra) : List AV := [I x.w, I x.p.k, I x.p.m, I x.p.h, I x.p.e, I x.p.u, .bool x.ag, I x.e, I x.u]
abbrev ints (l : List Int) : List AV := l.map (.int .i64)
theorem ints_at {l : List Int} {i : Nat} (h : i < l.length) : List.drop ((i : Int).toNat * 1) (ints l) = .int .i64 l[i] :: (ints l).drop (i + 1) := by
  rw [Int.toNat_natCast, Nat.mul_one, List.drop_eq_getElem_cons (by simpa using h)]; simp

def numB (n : Int) : Bool := decide (1 ≤ n) && decide (n ≤ 1073741824)
def serB (n : Int) : Bool := decide (0 ≤ n) && decide (n ≤ 1099511627776)
theorem c33 (n : Int) : CallA Try.prog 33 [.int .i64 n] Heap.nil fun v H' => v = .bool (numB n) ∧ H' = Heap.nil := by
  refine callA_of ok33 (Nat.le_of_ble_eq_true rfl) ?_
  repeat' ((conv => whnf); first
      | refine Branch.ofT rfl ?_
      | refine Branch.ofF rfl ?_
      | refine Branch.dec (fun h => ?_) (fun h => ?_)
      | refine Branch.negdec (fun h => ?_) (fun h => ?_)
      | refine Branch.neg (fun h => ?_) (fun h => ?_)
      | refine Branch.mk (fun h => ?_) (fun h => ?_)
      | (refine Side.mk ?_ ?_; · first | omega | decide)
      | (refine SideD.mk ?_ ?_; · first | omega | decide)
      | refine ⟨_, Nat.lt_succ_self _, To.refl (.inl ⟨rfl, ?_⟩)⟩
      | (refine Side.mk ?_ ?_; · (simp; done))
      | fail
      )
  all_goals (conv => whnf)
  all_goals refine RetA.data rfl ⟨?_, rfl⟩
  all_goals (simp_all [numB, one]; try omega)
theorem c34 (n : Int) : CallA Try.prog 34 [.int .i64 n] Heap.nil fun v H' => v = .bool (serB n) ∧ H' = Heap.nil := by
  refine callA_of ok34 (Nat.le_of_ble_eq_true rfl) ?_
  repeat' ((conv => whnf); first
      | refine Branch.ofT rfl ?_
      | refine Branch.ofF rfl ?_
      | refine Branch.dec (fun h => ?_) (fun h => ?_)
      | refine Branch.negdec (fun h => ?_) (fun h => ?_)
      | refine Branch.neg (fun h => ?_) (fun h => ?_)
      | refine Branch.mk (fun h => ?_) (fun h => ?_)
      | (refine Side.mk ?_ ?_; · first | omega | decide)
      | (refine SideD.mk ?_ ?_; · first | omega | decide)
      | refine ⟨_, Nat.lt_succ_self _, To.refl (.inl ⟨rfl, ?_⟩)⟩
      | (refine Side.mk ?_ ?_; · (simp; done))
      | fail
      )
  all_goals (conv => whnf)
  all_goals refine RetA.data rfl ⟨?_, rfl⟩
  all_goals (simp_all [serB, one]; try omega)

def I30 (l : List Int) (cap : Option Nat) (m : Nat) (fr : Fr) (H : Heap) : Prop := ∃ i : Nat, i ≤ l.length ∧ m = l.length - i ∧ (l.take i).all numB = true ∧ fr = [(5, .dslice (ints l) l.length cap), (6, .int .i64 l.length), (7, .int .i64 i)] ∧ H = Heap.nil
theorem c30 (l : List Int) (cap : Option Nat) (hl : l.length ≤ 1000) : CallA Try.prog 30 [.dslice (ints l) l.length cap] Heap.nil fun v H' => v = .bool (l.all numB) ∧ H' = Heap.nil := by
  refine callA_of ok30 (Nat.le_of_ble_eq_true rfl) ?_
  (conv => whnf)
  refine ⟨I30 l cap, l.length, To.gc [] [5, 6, 7] rfl trivial ⟨0, by omega, by omega, by simp, rfl, rfl⟩, ?_⟩
  rintro m fr H ⟨i, hi, rfl, hall, rfl, rfl⟩
  (conv => whnf)
  refine Branch.dec (fun h => ?_) (fun h => ?_)
  · (conv => whnf)
    have h' : i < l.length := by omega
    refine ⟨by omega, ?_⟩
    (conv => whnf)
    rw [ints_at h']
    repeat' ((conv => whnf); first
        | refine Branch.ofT rfl ?_
        | refine Branch.ofF rfl ?_
        | refine Branch.dec (fun h => ?_) (fun h => ?_)
        | refine Branch.negdec (fun h => ?_) (fun h => ?_)
        | refine Branch.neg (fun h => ?_) (fun h => ?_)
        | refine Branch.mk (fun h => ?_) (fun h => ?_)
        | (refine Side.mk ?_ ?_; · first | omega | decide)
        | (refine SideD.mk ?_ ?_; · first | omega | decide)
        | refine ⟨_, Nat.lt_succ_self _, To.refl (.inl ⟨rfl, ?_⟩)⟩
        | (refine Side.mk ?_ ?_; · (simp; done))
        | fail
        )
    all_goals (conv => whnf)
    · refine RetA.data rfl ⟨?_, rfl⟩
      simp only [one]; congr 1; symm; rw [List.all_eq_false]; exact ⟨l[i], List.getElem_mem _, by simp [numB]; omega⟩
    · refine RetA.data rfl ⟨?_, rfl⟩
      simp only [one]; congr 1; symm; rw [List.all_eq_false]; exact ⟨l[i], List.getElem_mem _, by simp [numB]; omega⟩
    · refine ⟨l.length - (i + 1), by omega, To.gc [] [5, 6, 7] rfl trivial ⟨i + 1, by omega, rfl, ?_, rfl, rfl⟩⟩
      rw [List.take_succ_eq_append_getElem h', List.all_append, hall]; simp [numB]; omega
  · (conv => whnf)
    refine RetA.data rfl ⟨?_, rfl⟩
    rw [List.take_of_length_le (by omega)] at hall
    rw [hall]; rfl
def I31 (l : List Int) (cap : Option Nat) (m : Nat) (fr : Fr) (H : Heap) : Prop := ∃ i : Nat, i ≤ l.length ∧ m = l.length - i ∧ (l.take i).all serB = true ∧ fr = [(5, .dslice (ints l) l.length cap), (6, .int .i64 l.length), (7, .int .i64 i)] ∧ H = Heap.nil
theorem c31 (l : List Int) (cap : Option Nat) (hl : l.length ≤ 1000) : CallA Try.prog 31 [.dslice (ints l) l.length cap] Heap.nil fun v H' => v = .bool (l.all serB) ∧ H' = Heap.nil := by
  refine callA_of ok31 (Nat.le_of_ble_eq_true rfl) ?_
  (conv => whnf)
  refine ⟨I31 l cap, l.length, To.gc [] [5, 6, 7] rfl trivial ⟨0, by omega, by omega, by simp, rfl, rfl⟩, ?_⟩
  rintro m fr H ⟨i, hi, rfl, hall, rfl, rfl⟩
  (conv => whnf)
  refine Branch.dec (fun h => ?_) (fun h => ?_)
  · (conv => whnf)
    have h' : i < l.length := by omega
    refine ⟨by omega, ?_⟩
    (conv => whnf)
    rw [ints_at h']
    repeat' ((conv => whnf); first
        | refine Branch.ofT rfl ?_
        | refine Branch.ofF rfl ?_
        | refine Branch.dec (fun h => ?_) (fun h => ?_)
        | refine Branch.negdec (fun h => ?_) (fun h => ?_)
        | refine Branch.neg (fun h => ?_) (fun h => ?_)
        | refine Branch.mk (fun h => ?_) (fun h => ?_)
        | (refine Side.mk ?_ ?_; · first | omega | decide)
        | (refine SideD.mk ?_ ?_; · first | omega | decide)
        | refine ⟨_, Nat.lt_succ_self _, To.refl (.inl ⟨rfl, ?_⟩)⟩
        | (refine Side.mk ?_ ?_; · (simp; done))
        | fail
        )
    all_goals (conv => whnf)
    · refine RetA.data rfl ⟨?_, rfl⟩
      simp only [one]; congr 1; symm; rw [List.all_eq_false]; exact ⟨l[i], List.getElem_mem _, by simp [serB]; omega⟩
    · refine RetA.data rfl ⟨?_, rfl⟩
      simp only [one]; congr 1; symm; rw [List.all_eq_false]; exact ⟨l[i], List.getElem_mem _, by simp [serB]; omega⟩
    · refine ⟨l.length - (i + 1), by omega, To.gc [] [5, 6, 7] rfl trivial ⟨i + 1, by omega, rfl, ?_, rfl, rfl⟩⟩
      rw [List.take_succ_eq_append_getElem h', List.all_append, hall]; simp [serB]; omega
  · (conv => whnf)
    refine RetA.data rfl ⟨?_, rfl⟩
    rw [List.take_of_length_le (by omega)] at hall
    rw [hall]; rfl
attribute [irreducible] numB serB
theorem c30_1 (a : Int) (cap : Option Nat) : CallA Try.prog 30 [.dslice [I a] 1 cap] Heap.nil fun v H' => v = .bool (numB a) ∧ H' = Heap.nil := by simpa using c30 [a] cap (by simp)
theorem c30_2 (a b : Int) (cap : Option Nat) : CallA Try.prog 30 [.dslice [I a, I b] 2 cap] Heap.nil fun v H' => v = .bool (numB a && numB b) ∧ H' = Heap.nil := by simpa using c30 [a, b] cap (by simp)
theorem c30_3 (a b c : Int) (cap : Option Nat) : CallA Try.prog 30 [.dslice [I a, I b, I c] 3 cap] Heap.nil fun v H' => v = .bool (numB a && (numB b && numB c)) ∧ H' = Heap.nil := by simpa using c30 [a, b, c] cap (by simp)
theorem c31_1 (a : Int) (cap : Option Nat) : CallA Try.prog 31 [.dslice [I a] 1 cap] Heap.nil fun v H' => v = .bool (serB a) ∧ H' = Heap.nil := by simpa using c31 [a] cap (by simp)
theorem c31_3 (a b c : Int) (cap : Option Nat) : CallA Try.prog 31 [.dslice (I a :: I b :: I c :: []) 3 cap] Heap.nil fun v H' => v = .bool (serB a && (serB b && serB c)) ∧ H' = Heap.nil := by simpa using c31 [a, b, c] cap (by simp)

def Hol.holds (x : Hol) : Bool := decide (2 ≤ (if x.g0 then 1 else 0 : Int) + (if x.g1 then 1 else 0) + (if x.g2 then 1 else 0))
theorem c13 (x : Hol) : CallA Try.prog 13 [.agg x.av] Heap.nil fun v H' => v = .bool x.holds ∧ H' = Heap.nil := by
  obtain ⟨m, h, e, g0, g1, g2, s, a0, a1, a2, r⟩ := x
  refine callA_of ok13 (Nat.le_of_ble_eq_true rfl) ?_
  cases g0 <;> cases g1 <;> cases g2
  all_goals (
    (conv => whnf)
    refine LoopA.unroll _ _ _ 3 ?_
    repeat' ((conv => whnf); first | refine Branch.ofT rfl ?_ | refine Branch.ofF rfl ?_ | refine Side.mk (by decide) ?_ | refine ⟨_, Nat.lt_succ_self _, To.refl (.inl ⟨rfl, ?_⟩)⟩)
    (conv => whnf)
    exact RetA.data rfl ⟨rfl, rfl⟩)
end Go.Proofs

namespace Go.Proofs
open Go Go.Eng
set_option maxRecDepth 100000

theorem c25 (x : Hol) : CallA Try.prog 25 [.agg x.av] Heap.nil fun v H' => v = .bool x.holds ∧ H' = Heap.nil := by
  obtain ⟨m, h, e, g0, g1, g2, s, a0, a1, a2, r⟩ := x
  refine callA_of ok25 (Nat.le_of_ble_eq_true rfl) ?_
  cases g0 <;> cases g1 <;> cases g2
  all_goals (
    (conv => whnf)
    refine LoopA.unroll _ _ _ 3 ?_
    repeat' ((conv => whnf); first | refine Branch.ofT rfl ?_ | refine Branch.ofF rfl ?_ | refine Side.mk (by decide) ?_ | refine ⟨_, Nat.lt_succ_self _, To.refl (.inl ⟨rfl, ?_⟩)⟩)
    (conv => whnf)
    exact RetA.data rfl ⟨rfl, rfl⟩)
attribute [local irreducible] Hol.holds
def Ple.ok (p : Ple) : Bool := (decide (p.k = 1) || decide (p.k = 2)) && numB p.m && numB p.h && numB p.e && serB p.u && (decide (p.k = 2) || decide (p.u = 0))
theorem c38 (p : Ple) : CallA Try.prog 38 [.agg p.av] Heap.nil fun v H' => v = .bool p.ok ∧ H' = Heap.nil := by
  obtain ⟨k, m, h, e, u⟩ := p
  refine callA_of ok38 (Nat.le_of_ble_eq_true rfl) ?_
  repeat' ((conv => whnf); first
      | refine Branch.ofT rfl ?_
      | refine Branch.ofF rfl ?_
      | refine Branch.dec (fun h => ?_) (fun h => ?_)
      | refine Branch.negdec (fun h => ?_) (fun h => ?_)
      | refine Branch.neg (fun h => ?_) (fun h => ?_)
      | refine Branch.mk (fun h => ?_) (fun h => ?_)
      | (refine Side.mk ?_ ?_; · first | omega | decide)
      | (refine SideD.mk ?_ ?_; · first | omega | decide)
      | refine ⟨_, Nat.lt_succ_self _, To.refl (.inl ⟨rfl, ?_⟩)⟩
      | refine CallA.pure (c33 _) rfl rfl ?_
      | refine CallA.pure (c34 _) rfl rfl ?_
      | (refine Side.mk ?_ ?_; · (simp; done))
      | fail
      )
  all_goals (conv => whnf)
  all_goals refine RetA.data rfl ⟨?_, rfl⟩
  all_goals (simp only [one]; congr 1)
  all_goals (simp_all [Ple.ok])
theorem c35 (p : Ple) : CallA Try.prog 35 [.agg p.av] Heap.nil fun v H' => v = .bool p.ok ∧ H' = Heap.nil := by
  obtain ⟨k, m, h, e, u⟩ := p
  refine callA_of ok35 (Nat.le_of_ble_eq_true rfl) ?_
  repeat' ((conv => whnf); first
      | refine Branch.ofT rfl ?_
      | refine Branch.ofF rfl ?_
      | refine Branch.dec (fun h => ?_) (fun h => ?_)
      | refine Branch.negdec (fun h => ?_) (fun h => ?_)
      | refine Branch.neg (fun h => ?_) (fun h => ?_)
      | refine Branch.mk (fun h => ?_) (fun h => ?_)
      | (refine Side.mk ?_ ?_; · first | omega | decide)
      | (refine SideD.mk ?_ ?_; · first | omega | decide)
      | refine ⟨_, Nat.lt_succ_self _, To.refl (.inl ⟨rfl, ?_⟩)⟩
      | refine CallA.pure (c30_3 _ _ _ _) rfl rfl ?_
      | refine CallA.pure (c31_1 _ _) rfl rfl ?_
      | (refine Side.mk ?_ ?_; · (simp; done))
      | fail
      )
  all_goals (conv => whnf)
  all_goals refine RetA.data rfl ⟨?_, rfl⟩
  all_goals (simp only [one]; congr 1)
  all_goals (simp_all [Ple.ok])
attribute [irreducible] Ple.ok
def Hol.right (x : Hol) : Bool := numB x.m && numB x.h && decide (0 ≤ x.e) && decide (x.e ≤ 1073741824) && decide (0 ≤ x.r) && decide (x.r ≤ 1073741824) && serB x.s && serB x.a0 && serB x.a1 && serB x.a2
theorem c20 (x : Hol) : CallA Try.prog 20 [.agg x.av] Heap.nil fun v H' => v = .bool x.right ∧ H' = Heap.nil := by
  obtain ⟨m, hh, e, g0, g1, g2, s, a0, a1, a2, r⟩ := x
  refine callA_of ok20 (Nat.le_of_ble_eq_true rfl) ?_
  repeat' ((conv => whnf); first
      | refine Branch.ofT rfl ?_
      | refine Branch.ofF rfl ?_
      | refine Branch.dec (fun h => ?_) (fun h => ?_)
      | refine Branch.negdec (fun h => ?_) (fun h => ?_)
      | refine Branch.neg (fun h => ?_) (fun h => ?_)
      | refine Branch.mk (fun h => ?_) (fun h => ?_)
      | (refine Side.mk ?_ ?_; · first | omega | decide)
      | (refine SideD.mk ?_ ?_; · first | omega | decide)
      | refine ⟨_, Nat.lt_succ_self _, To.refl (.inl ⟨rfl, ?_⟩)⟩
      | refine CallA.pure (c33 _) rfl rfl ?_
      | refine CallA.pure (c34 _) rfl rfl ?_
      | refine LoopA.unroll _ _ _ 3 ?_
      | (refine Side.mk ?_ ?_; · (simp; done))
      | fail
      )
  all_goals (conv => whnf)
  all_goals refine RetA.data rfl ⟨?_, rfl⟩
  all_goals (simp only [one]; congr 1)
  all_goals (simp_all [Hol.right] <;> omega)
theorem c19 (x : Hol) : CallA Try.prog 19 [.agg x.av] Heap.nil fun v H' => v = .bool x.right ∧ H' = Heap.nil := by
  obtain ⟨m, hh, e, g0, g1, g2, s, a0, a1, a2, r⟩ := x
  refine callA_of ok19 (Nat.le_of_ble_eq_true rfl) ?_
  repeat' ((conv => whnf); first
      | refine Branch.ofT rfl ?_
      | refine Branch.ofF rfl ?_
      | refine Branch.dec (fun h => ?_) (fun h => ?_)
      | refine Branch.negdec (fun h => ?_) (fun h => ?_)
      | refine Branch.neg (fun h => ?_) (fun h => ?_)
      | refine Branch.mk (fun h => ?_) (fun h => ?_)
      | (refine Side.mk ?_ ?_; · first | omega | decide)
      | (refine SideD.mk ?_ ?_; · first | omega | decide)
      | refine ⟨_, Nat.lt_succ_self _, To.refl (.inl ⟨rfl, ?_⟩)⟩
      | refine Side.mk (by simp [Hol.av]) ?_
      | refine CallA.pure (c30_2 _ _ _) rfl rfl ?_
      | refine CallA.pure (c31_1 _ _) rfl rfl ?_
      | refine CallS.call (CallS.peek 0 rfl (by simp [noLoc, Hol.av]) (CallS.of (c31_3 _ _ _ _) rfl rfl)) rfl ?_
      | (refine Side.mk ?_ ?_; · (simp; done))
      | fail
      )
  all_goals (conv => whnf)
  all_goals refine RetA.data rfl ⟨?_, rfl⟩
  all_goals (simp only [one]; congr 1)
  all_goals (simp_all [Hol.right])
  all_goals grind
attribute [irreducible] Hol.right
end Go.Proofs

namespace Go.Proofs
open Go Go.Eng
set_option maxRecDepth 100000
attribute [local irreducible] Hol.holds

def Ple.zero : Ple := ⟨0, 0, 0, 0, 0⟩
def Hol.seek (x : Hol) (n : Int) : Hol × Ple × Int := if numB n then (if n ≤ x.e then (x, .zero, 9) else (⟨x.m, x.h, n, false, false, false, 0, 0, 0, 0, x.r⟩, ⟨1, x.m, x.h, n, 0⟩, 0)) else (x, .zero, 1)
theorem c11 (x : Hol) (n : Int) : CallA Try.prog 11 [.agg x.av, I n] Heap.nil fun v H' => v = .tuple [.agg (x.seek n).1.av, .agg (x.seek n).2.1.av, I (x.seek n).2.2] ∧ H' = Heap.nil := by
  refine callA_of ok11 (Nat.le_of_ble_eq_true rfl) ?_
  repeat' ((conv => whnf); first
      | refine Branch.ofT rfl ?_
      | refine Branch.ofF rfl ?_
      | refine Branch.dec (fun h => ?_) (fun h => ?_)
      | refine Branch.negdec (fun h => ?_) (fun h => ?_)
      | refine Branch.neg (fun h => ?_) (fun h => ?_)
      | refine Branch.mk (fun h => ?_) (fun h => ?_)
      | (refine Side.mk ?_ ?_; · first | omega | decide)
      | (refine SideD.mk ?_ ?_; · first | omega | decide)
      | refine ⟨_, Nat.lt_succ_self _, To.refl (.inl ⟨rfl, ?_⟩)⟩
      | refine CallA.pure (c30_1 _ _) rfl rfl ?_
      | (refine Side.mk ?_ ?_; · (simp; done))
      | fail
      )
  all_goals (conv => whnf)
  all_goals refine RetA.data rfl ⟨?_, rfl⟩
  all_goals (simp only [one, Hol.seek, *, reduceIte, Bool.false_eq_true]; rfl)
theorem c21 (x : Hol) (n : Int) : CallA Try.prog 21 [.agg x.av, I n] Heap.nil fun v H' => v = .agg ((x.seek n).1.av ++ (x.seek n).2.1.av ++ [I (x.seek n).2.2]) ∧ H' = Heap.nil := by
  refine callA_of ok21 (Nat.le_of_ble_eq_true rfl) ?_
  repeat' ((conv => whnf); first
      | refine Branch.ofT rfl ?_
      | refine Branch.ofF rfl ?_
      | refine Branch.dec (fun h => ?_) (fun h => ?_)
      | refine Branch.negdec (fun h => ?_) (fun h => ?_)
      | refine Branch.neg (fun h => ?_) (fun h => ?_)
      | refine Branch.mk (fun h => ?_) (fun h => ?_)
      | (refine Side.mk ?_ ?_; · first | omega | decide)
      | (refine SideD.mk ?_ ?_; · first | omega | decide)
      | refine ⟨_, Nat.lt_succ_self _, To.refl (.inl ⟨rfl, ?_⟩)⟩
      | refine CallA.pure (c33 _) rfl rfl ?_
      | (refine Side.mk ?_ ?_; · (simp; done))
      | fail
      )
  all_goals (conv => whnf)
  all_goals refine RetA.data rfl ⟨?_, rfl⟩
  all_goals (simp only [one, Hol.seek, *, reduceIte, Bool.false_eq_true]; rfl)
def Hol.offer (x : Hol) (n : Int) : Ple × Int := if x.holds then (if serB n then (⟨2, x.m, x.h, x.e, n⟩, 0) else (.zero, 1)) else (.zero, 4)
def Hol.zero : Hol := ⟨0, 0, 0, false, false, false, 0, 0, 0, 0, 0⟩
theorem c14 (x : Hol) (n : Int) : CallA Try.prog 14 [.agg x.av, I n] Heap.nil fun v H' => v = .tuple [.agg (x.offer n).1.av, I (x.offer n).2] ∧ H' = Heap.nil := by
  refine callA_of ok14 (Nat.le_of_ble_eq_true rfl) ?_
  repeat' ((conv => whnf); first
      | refine Branch.ofT rfl ?_
      | refine Branch.ofF rfl ?_
      | refine Branch.dec (fun h => ?_) (fun h => ?_)
      | refine Branch.negdec (fun h => ?_) (fun h => ?_)
      | refine Branch.neg (fun h => ?_) (fun h => ?_)
      | refine Branch.mk (fun h => ?_) (fun h => ?_)
      | (refine Side.mk ?_ ?_; · first | omega | decide)
      | (refine SideD.mk ?_ ?_; · first | omega | decide)
      | refine ⟨_, Nat.lt_succ_self _, To.refl (.inl ⟨rfl, ?_⟩)⟩
      | refine CallA.pure (c13 x) rfl rfl ?_
      | refine CallA.pure (c31_1 _ _) rfl rfl ?_
      | (refine Side.mk ?_ ?_; · (simp; done))
      | fail
      )
  all_goals (conv => whnf)
  all_goals refine RetA.data rfl ⟨?_, rfl⟩
  all_goals (simp only [one, Hol.offer, *, reduceIte, Bool.false_eq_true]; rfl)
theorem c22 (x : Hol) (n : Int) : CallA Try.prog 22 [.agg x.av, I n] Heap.nil fun v H' => v = .agg (Hol.zero.av ++ (x.offer n).1.av ++ [I (x.offer n).2]) ∧ H' = Heap.nil := by
  refine callA_of ok22 (Nat.le_of_ble_eq_true rfl) ?_
  repeat' ((conv => whnf); first
      | refine Branch.ofT rfl ?_
      | refine Branch.ofF rfl ?_
      | refine Branch.dec (fun h => ?_) (fun h => ?_)
      | refine Branch.negdec (fun h => ?_) (fun h => ?_)
      | refine Branch.neg (fun h => ?_) (fun h => ?_)
      | refine Branch.mk (fun h => ?_) (fun h => ?_)
      | (refine Side.mk ?_ ?_; · first | omega | decide)
      | (refine SideD.mk ?_ ?_; · first | omega | decide)
      | refine ⟨_, Nat.lt_succ_self _, To.refl (.inl ⟨rfl, ?_⟩)⟩
      | refine CallA.pure (c25 x) rfl rfl ?_
      | refine CallA.pure (c34 _) rfl rfl ?_
      | (refine Side.mk ?_ ?_; · (simp; done))
      | fail
      )
  all_goals (conv => whnf)
  all_goals refine RetA.data rfl ⟨?_, rfl⟩
  all_goals (simp only [one, Hol.offer, *, reduceIte, Bool.false_eq_true]; rfl)
def mx (a b : Int) : Int := if b > a then b else a
def Gra.own (x : Hol) (g : Gra) : Bool := g.ag && decide (0 ≤ g.w) && decide (g.w < 3) && g.p.ok && decide (g.p.m = x.m) && decide (g.p.h = x.h) && decide (g.p.e = x.e) && decide (0 ≤ g.e) && decide (g.e ≤ 1073741824) && serB g.u
def Hol.hear (x : Hol) (g : Gra) : Hol := if g.p.m = x.m ∧ numB g.e = true then { x with r := mx x.r g.e } else x
def Hol.ack (x : Hol) (i : Int) (n : Int) : Hol := if i = 0 then { x with a0 := mx x.a0 n } else if i = 1 then { x with a1 := mx x.a1 n } else { x with a2 := mx x.a2 n }
def Hol.gr (x : Hol) (i : Int) : Bool := if i = 0 then x.g0 else if i = 1 then x.g1 else x.g2
def Hol.grant (x : Hol) (i : Int) : Hol := if i = 0 then { x with g0 := true } else if i = 1 then { x with g1 := true } else { x with g2 := true }
def Hol.take (x : Hol) (g : Gra) : Hol := if g.own x then (if g.p.k = 2 then (x.hear g).ack g.w g.p.u else if x.gr g.w then x.hear g else { (x.hear g).grant g.w with s := mx x.s g.u }) else x.hear g
end Go.Proofs

namespace Go.Proofs
open Go Go.Eng
set_option maxRecDepth 100000
set_option maxHeartbeats 4000000
def I36 (n : Nat) (g : Nat) (caps : List AV) (F : Nat → Bool) (H0 : Heap) (m : Nat) (fr : Fr) (H : Heap) : Prop :=
  ∃ i j : Nat, i ≤ j ∧ j ≤ n ∧ m = j - i ∧ (∀ k, k < i → F k = false) ∧ (∀ k, j ≤ k → k < n → F k = true) ∧ fr = [(1, .func g caps), (5, I i), (6, I j)] ∧ H = H0
theorem half_eq {i j : Nat} (hi : i ≤ 1000000) (hj : j ≤ 1000000) : IntKind.i64.wrap ((IntKind.u64.wrap ((i : Int) + (j : Int))).fdiv (2 ^ min (Int.toNat 1) IntKind.u64.bits)) = (((i + j) / 2 : Nat) : Int) := by
  rw [IntWalk.u64_in _ (by omega)]
  have : (2 : Int) ^ min (Int.toNat 1) IntKind.u64.bits = 2 := by decide
  rw [this, Int.fdiv_eq_ediv_of_nonneg _ (by decide), IntWalk.i64_in _ (by omega)]
  omega
theorem c36 (n g : Nat) (caps : List AV) (F : Nat → Bool) (H : Heap) (hn : n ≤ 1000000) (hmono : ∀ k l, k ≤ l → l < n → F k = true → F l = true)
    (hf : ∀ k : Nat, k < n → CallA Try.prog g (I k :: caps) H fun v H' => v = .bool (F k) ∧ H' = H) :
    CallA Try.prog 36 [I n, .func g caps] H fun v H' => ∃ r : Nat, r ≤ n ∧ (∀ k, k < r → F k = false) ∧ (∀ k, r ≤ k → k < n → F k = true) ∧ v = I r ∧ H' = H := by
  refine callA_of ok36 (Nat.le_of_ble_eq_true rfl) ?_
  (conv => whnf)
  refine ⟨I36 n g caps F H, n, To.slots [1, 5, 6] ⟨0, n, by omega, by omega, by omega, by omega, by omega, rfl, rfl⟩, ?_⟩
  rintro m fr H' ⟨i, j, hij, hjn, rfl, hlo, hhi, rfl, rfl⟩
  (conv => whnf)
  refine Branch.dec (fun h => ?_) (fun h => ?_)
  · (conv => whnf)
    refine Side.mk (by omega) ?_
    (conv => whnf)
    refine Side.mk (by omega) ?_
    (conv => whnf)
    have hlt : (i + j) / 2 < n := by omega
    rw [half_eq (by omega) (by omega)]
    refine CallA.mono (hf _ hlt) ?_
    rintro v H2 ⟨rfl, rfl⟩
    (conv => whnf)
    refine Branch.neg (fun hb => ?_) (fun hb => ?_)
    · (conv => whnf)
      refine Side.mk (by omega) ?_
      (conv => whnf)
      refine ⟨j - ((i + j) / 2 + 1), by omega, To.slots [1, 5, 6] ⟨(i + j) / 2 + 1, j, by omega, by omega, rfl, ?_, hhi, ?_, rfl⟩⟩
      · intro k hk
        cases hF : F k with
        | false => rfl
        | true => rw [hmono k _ (by omega) hlt hF] at hb; cases hb
      · exact congrArg (fun z => [(1, AV.func g caps), (5, I z), (6, I j)]) (by omega : (((i + j) / 2 : Nat) : Int) + 1 = (((i + j) / 2 + 1 : Nat) : Int))
    · (conv => whnf)
      refine ⟨(i + j) / 2 - i, by omega, To.slots [1, 5, 6] ⟨i, (i + j) / 2, by omega, by omega, rfl, hlo, ?_, rfl, rfl⟩⟩
      intro k h1 h2
      exact hmono _ k h1 h2 hb
  · (conv => whnf)
    refine RetA.same ⟨i, by omega, hlo, fun k h1 h2 => hhi k (by omega) h2, rfl, rfl⟩
end Go.Proofs

namespace Go.Proofs
open Go Go.Eng
set_option maxRecDepth 100000
set_option maxHeartbeats 4000000
structure Kep where
  (m e h u : Int)
def Kep.av (k : Kep) : List AV := [I k.m, I k.e, I k.h, I k.u]
def kcells : List Kep → List AV
  | [] => []
  | k :: r => I k.m :: I k.e :: I k.h :: I k.u :: kcells r
theorem kcells_length : ∀ l : List Kep, (kcells l).length = l.length * 4
  | [] => rfl
  | k :: r => by simp only [kcells, List.length_cons, kcells_length r]; omega
theorem kcells_append : ∀ l r : List Kep, kcells (l ++ r) = kcells l ++ kcells r
  | [], r => rfl
  | k :: l, r => by simp only [List.cons_append, kcells, kcells_append l r]
theorem kcells_drop : ∀ (i : Nat) (l : List Kep), (kcells l).drop (i * 4) = kcells (l.drop i)
  | 0, l => by simp
  | i + 1, [] => by simp [kcells]
  | i + 1, k :: r => by
    rw [List.drop_succ_cons, ← kcells_drop i r, Nat.add_mul]
    simp only [kcells]
    rw [show i * 4 + 1 * 4 = i * 4 + 3 + 1 by omega, List.drop_succ_cons, show i * 4 + 3 = i * 4 + 2 + 1 by omega, List.drop_succ_cons, List.drop_succ_cons, List.drop_succ_cons]
theorem kcells_take : ∀ (i : Nat) (l : List Kep), (kcells l).take (i * 4) = kcells (l.take i)
  | 0, l => by simp [kcells]
  | i + 1, [] => by simp [kcells]
  | i + 1, k :: r => by
    rw [List.take_succ_cons, Nat.add_mul]
    simp only [kcells]
    rw [show i * 4 + 1 * 4 = i * 4 + 3 + 1 by omega, List.take_succ_cons, show i * 4 + 3 = i * 4 + 2 + 1 by omega, List.take_succ_cons, List.take_succ_cons, List.take_succ_cons, kcells_take i r]
theorem kcells_at {l : List Kep} {i : Nat} (h : i < l.length) : List.drop ((i : Int).toNat * 4) (kcells l) = I l[i].m :: I l[i].e :: I l[i].h :: I l[i].u :: kcells (l.drop (i + 1)) := by
  rw [Int.toNat_natCast, kcells_drop, List.drop_eq_getElem_cons h]; rfl
theorem kcells_scal : ∀ (l : List Kep), ∀ c ∈ kcells l, scal c = true
  | [], c, h => by cases h
  | k :: r, c, h => by
    simp only [kcells, List.mem_cons] at h
    rcases h with rfl | rfl | rfl | rfl | h
    · rfl
    · rfl
    · rfl
    · rfl
    · exact kcells_scal r c h
theorem kcells_noLoc : ∀ (l : List Kep), ∀ c ∈ kcells l, noLoc c = true
  | [], c, h => by cases h
  | k :: r, c, h => by
    simp only [kcells, List.mem_cons] at h
    rcases h with rfl | rfl | rfl | rfl | h
    · rfl
    · rfl
    · rfl
    · rfl
    · exact kcells_noLoc r c h
def wav (id : Int) (l : List Kep) (cap : Option Nat) : List AV := [I id, .dslice (kcells l) l.length cap]
def hHeap (id : Int) (l : List Kep) (cap : Option Nat) (p : Ple) : Heap := ⟨2, [(0, .cells (wav id l cap)), (1, .cells p.av)]⟩
theorem wav_noLoc (id : Int) (l : List Kep) (cap : Option Nat) : ∀ c ∈ wav id l cap, noLoc c = true := by simp [wav, noLoc]
theorem ple_noLoc (p : Ple) : ∀ c ∈ p.av, noLoc c = true := by simp [Ple.av, noLoc]
theorem c37 (id : Int) (l : List Kep) (cap : Option Nat) (p : Ple) (k : Nat) (hk : k < l.length) : CallA Try.prog 37 [I k, .ptr 0 0, .ptr 1 0] (hHeap id l cap p) fun v H' => v = .bool (decide (p.m ≤ l[k].m)) ∧ H' = hHeap id l cap p := by
  refine callA_of ok37 (Nat.le_of_ble_eq_true rfl) ?_
  (conv => whnf)
  refine SideD.at (by omega) (kcells_at hk) ?_
  repeat' ((conv => whnf); first
      | refine Branch.ofT rfl ?_
      | refine Branch.ofF rfl ?_
      | refine Branch.dec (fun h => ?_) (fun h => ?_)
      | refine Branch.negdec (fun h => ?_) (fun h => ?_)
      | refine Branch.neg (fun h => ?_) (fun h => ?_)
      | refine Branch.mk (fun h => ?_) (fun h => ?_)
      | (refine Side.mk ?_ ?_; · first | omega | decide)
      | (refine SideD.mk ?_ ?_; · first | omega | decide)
      | refine ⟨_, Nat.lt_succ_self _, To.refl (.inl ⟨rfl, ?_⟩)⟩
      | (refine Side.mk ?_ ?_; · (simp; done))
      | fail
      )
  all_goals (conv => whnf)
  exact RetA.gc [(0, true), (1, true)] rfl ⟨wav_noLoc id l cap, ple_noLoc p, trivial⟩ ⟨rfl, rfl⟩
end Go.Proofs

set_option maxRecDepth 100000
namespace Go.Proofs
open Go Go.Eng
/-- simulacrum/token.Hear -/
def ac17b : AC := (.seq (.reg [⟨some 2, .h (.box (.t 0)), none⟩,
    ⟨some 3, .h (.box (.t 1)), none⟩,
    ⟨some 4, .h (.alloc [(.int .i64 0), .nils]), none⟩,
    ⟨some 5, .h (.alloc [(.int .i64 0), (.int .i64 0), (.int .i64 0), (.int .i64 0), (.int .i64 0), (.int .i64 0), (.bool false), (.int .i64 0), (.int .i64 0)]), none⟩,
    ⟨some 6, .p (.mov (.c (.int .i64 0))), none⟩])
  (.seq (.seq (.reg [⟨some 12, .h (.load true 5 (.t 3)), none⟩,
    ⟨some 13, .call 35 [(.t 12)], none⟩,
    ⟨some 14, .p (.un .not (.t 13)), none⟩])
  (.cond (.t 14) (.seq (.reg [⟨some 15, .h (.load true 2 (.t 2)), none⟩,
    ⟨some 16, .v (.build [(.int .i64 0), (.int .i64 0), (.int .i64 0), (.int .i64 0), (.int .i64 0), (.int .i64 0), (.bool false), (.int .i64 0), (.int .i64 0)] []), none⟩,
    ⟨none, .h (.store 2 (.t 4) (.t 15)), none⟩,
    ⟨none, .h (.store 9 (.t 5) (.t 16)), none⟩,
    ⟨some 6, .p (.mov (.c (.int .i64 1))), none⟩])
  .ret) .skip))
  (.seq (.reg [⟨some 17, .p (.fieldA 1 (.t 2)), none⟩,
    ⟨some 18, .h (.load false 1 (.t 17)), none⟩,
    ⟨some 19, .p (.len false (.t 18)), none⟩,
    ⟨some 20, .p (.mkfn 37 [(.t 2), (.t 3)]), none⟩,
    ⟨some 21, .call 36 [(.t 19), (.t 20)], none⟩,
    ⟨some 7, .p (.mov (.t 21)), none⟩])
  (.seq (.draw 17 [] [⟨some 22, .p (.mov (.t 7)), none⟩,
    ⟨some 23, .p (.fieldA 1 (.t 2)), none⟩,
    ⟨some 24, .h (.load false 1 (.t 23)), none⟩,
    ⟨some 25, .p (.len false (.t 24)), none⟩,
    ⟨some 26, .p (.bin .lss (.t 22) (.t 25)), none⟩,
    ⟨some 27, .p (.mov (.t 26)), none⟩,
    ⟨some 28, .p (.fieldA 1 (.t 2)), (some (27, true))⟩,
    ⟨some 29, .h (.load false 1 (.t 28)), (some (27, true))⟩,
    ⟨some 30, .p (.mov (.t 7)), (some (27, true))⟩,
    ⟨some 31, .p (.idxA 4 none (.t 29) (.t 30)), (some (27, true))⟩,
    ⟨some 32, .p (.fieldA 0 (.t 31)), (some (27, true))⟩,
    ⟨some 33, .h (.load false 1 (.t 32)), (some (27, true))⟩,
    ⟨some 34, .p (.fieldA 1 (.t 3)), (some (27, true))⟩,
    ⟨some 35, .h (.load false 1 (.t 34)), (some (27, true))⟩,
    ⟨some 36, .p (.bin .eql (.t 33) (.t 35)), (some (27, true))⟩,
    ⟨some 37, .p (.pick (.t 27) (.t 36) (.c (.bool false))), none⟩,
    ⟨some 8, .p (.mov (.t 37)), none⟩])
  (.seq (.seq (.reg [⟨some 38, .p (.mov (.t 8)), none⟩,
    ⟨some 39, .p (.un .not (.t 38)), none⟩,
    ⟨some 40, .p (.mov (.t 39)), none⟩,
    ⟨some 41, .p (.fieldA 1 (.t 2)), (some (40, true))⟩,
    ⟨some 42, .h (.load false 1 (.t 41)), (some (40, true))⟩,
    ⟨some 43, .p (.len false (.t 42)), (some (40, true))⟩,
    ⟨some 44, .p (.bin .geq (.t 43) (.c (.int .i64 64))), (some (40, true))⟩,
    ⟨some 45, .p (.pick (.t 40) (.t 44) (.c (.bool false))), none⟩])
  (.cond (.t 45) (.seq (.reg [⟨some 46, .h (.load true 2 (.t 2)), none⟩,
    ⟨some 47, .v (.build [(.int .i64 0), (.int .i64 0), (.int .i64 0), (.int .i64 0), (.int .i64 0), (.int .i64 0), (.bool false), (.int .i64 0), (.int .i64 0)] []), none⟩,
    ⟨none, .h (.store 2 (.t 4) (.t 46)), none⟩,
    ⟨none, .h (.store 9 (.t 5) (.t 47)), none⟩,
    ⟨some 6, .p (.mov (.c (.int .i64 2))), none⟩])
  .ret) .skip))
  (.seq (.reg [⟨some 48, .p (.fieldA 0 (.t 2)), none⟩,
    ⟨some 49, .h (.load false 1 (.t 48)), none⟩,
    ⟨some 50, .h (.load true 5 (.t 3)), none⟩,
    ⟨some 51, .v (.build [(.int .i64 0), (.int .i64 0), (.int .i64 0), (.int .i64 0), (.int .i64 0), (.int .i64 0), (.bool false), (.int .i64 0), (.int .i64 0)] [(0, 1, (.t 49)), (1, 5, (.t 50))]), none⟩,
    ⟨some 9, .h (.alloc [(.int .i64 0), (.int .i64 0), (.int .i64 0), (.int .i64 0), (.int .i64 0), (.int .i64 0), (.bool false), (.int .i64 0), (.int .i64 0)]), none⟩,
    ⟨none, .h (.store 9 (.t 9) (.t 51)), none⟩])
  (.seq (.seq (.reg [⟨some 52, .p (.mov (.t 8)), none⟩,
    ⟨some 53, .p (.un .not (.t 52)), none⟩,
    ⟨some 54, .p (.mov (.t 53)), none⟩,
    ⟨some 55, .p (.fieldA 0 (.t 3)), (some (54, true))⟩,
    ⟨some 56, .h (.load false 1 (.t 55)), (some (54, true))⟩,
    ⟨some 57, .p (.bin .eql (.t 56) (.c (.int .i64 2))), (some (54, true))⟩,
    ⟨some 58, .p (.pick (.t 54) (.t 57) (.c (.bool false))), none⟩])
  (.cond (.t 58) (.seq (.draw 5 [(0, 2), (1, 3), (2, 3), (0, 3)] [⟨some 59, .h (.load true 2 (.t 2)), none⟩,
    ⟨some 60, .h (.load true 9 (.t 9)), none⟩,
    ⟨none, .h (.store 2 (.t 4) (.t 59)), none⟩,
    ⟨none, .h (.store 9 (.t 5) (.t 60)), none⟩,
    ⟨some 6, .p (.mov (.c (.int .i64 0))), none⟩])
  .ret) .skip))
  (.seq (.reg [⟨some 61, .p (.fieldA 1 (.t 3)), none⟩,
    ⟨some 62, .h (.load false 1 (.t 61)), none⟩,
    ⟨some 63, .v (.build [(.int .i64 0), (.int .i64 0), (.int .i64 0), (.int .i64 0)] [(0, 1, (.t 62))]), none⟩,
    ⟨some 10, .h (.alloc [(.int .i64 0), (.int .i64 0), (.int .i64 0), (.int .i64 0)]), none⟩,
    ⟨none, .h (.store 4 (.t 10) (.t 63)), none⟩])
  (.seq (.reg [⟨some 64, .l (.bslice 4 0 [(.int .i64 0), (.int .i64 0), (.int .i64 0), (.int .i64 0)] []), none⟩,
    ⟨some 65, .p (.fieldA 1 (.t 2)), none⟩,
    ⟨some 66, .h (.load false 1 (.t 65)), none⟩,
    ⟨some 67, .p (.mov (.t 7)), none⟩,
    ⟨some 68, .v (.sub 4 (.t 66) none (some (.t 67)) none), none⟩,
    ⟨some 69, .l (.append 4 32 (.t 64) (.t 68)), none⟩,
    ⟨some 11, .p (.mov (.t 69)), none⟩])
  (.seq (.seq (.reg [⟨some 70, .p (.mov (.t 8)), none⟩])
  (.cond (.t 70) (.seq (.reg [⟨some 71, .p (.fieldA 1 (.t 2)), none⟩,
    ⟨some 72, .h (.load false 1 (.t 71)), none⟩,
    ⟨some 73, .p (.mov (.t 7)), none⟩,
    ⟨some 74, .p (.idxA 4 none (.t 72) (.t 73)), none⟩,
    ⟨some 75, .h (.load true 4 (.t 74)), none⟩,
    ⟨none, .h (.store 4 (.t 10) (.t 75)), none⟩])
  (.draw 11 [(1, 2), (2, 3), (3, 9)] [⟨some 76, .p (.mov (.t 11)), none⟩,
    ⟨some 77, .h (.load true 4 (.t 10)), none⟩,
    ⟨some 78, .d (.bslice 4 1 [(.int .i64 0), (.int .i64 0), (.int .i64 0), (.int .i64 0)] [(0, (.t 77))]), none⟩,
    ⟨some 79, .l (.append 4 32 (.t 76) (.t 78)), none⟩,
    ⟨some 80, .p (.fieldA 1 (.t 2)), none⟩,
    ⟨some 81, .h (.load false 1 (.t 80)), none⟩,
    ⟨some 82, .p (.mov (.t 7)), none⟩,
    ⟨some 83, .p (.bin .add (.t 82) (.c (.int .i64 1))), none⟩,
    ⟨some 84, .v (.sub 4 (.t 81) (some (.t 83)) none none), none⟩,
    ⟨some 85, .l (.append 4 32 (.t 79) (.t 84)), none⟩,
    ⟨some 11, .p (.mov (.t 85)), none⟩])) (.draw 10 [(1, 2), (2, 3), (3, 8)] [⟨some 86, .p (.mov (.t 11)), none⟩,
    ⟨some 87, .h (.load true 4 (.t 10)), none⟩,
    ⟨some 88, .d (.bslice 4 1 [(.int .i64 0), (.int .i64 0), (.int .i64 0), (.int .i64 0)] [(0, (.t 87))]), none⟩,
    ⟨some 89, .l (.append 4 32 (.t 86) (.t 88)), none⟩,
    ⟨some 90, .p (.fieldA 1 (.t 2)), none⟩,
    ⟨some 91, .h (.load false 1 (.t 90)), none⟩,
    ⟨some 92, .p (.mov (.t 7)), none⟩,
    ⟨some 93, .v (.sub 4 (.t 91) (some (.t 92)) none none), none⟩,
    ⟨some 94, .l (.append 4 32 (.t 89) (.t 93)), none⟩,
    ⟨some 11, .p (.mov (.t 94)), none⟩])))
  (.seq (.seq (.reg [⟨some 95, .p (.fieldA 0 (.t 3)), none⟩,
    ⟨some 96, .h (.load false 1 (.t 95)), none⟩,
    ⟨some 97, .p (.bin .eql (.t 96) (.c (.int .i64 1))), none⟩,
    ⟨some 98, .p (.mov (.t 97)), none⟩,
    ⟨some 99, .p (.fieldA 3 (.t 3)), (some (98, true))⟩,
    ⟨some 100, .h (.load false 1 (.t 99)), (some (98, true))⟩,
    ⟨some 101, .p (.fieldA 1 (.t 10)), (some (98, true))⟩,
    ⟨some 102, .h (.load false 1 (.t 101)), (some (98, true))⟩,
    ⟨some 103, .p (.bin .gtr (.t 100) (.t 102)), (some (98, true))⟩,
    ⟨some 104, .p (.pick (.t 98) (.t 103) (.c (.bool false))), none⟩])
  (.cond (.t 104) (.draw 8 [(1, 5), (3, 7), (5, 7), (1, 7)] [⟨some 105, .p (.fieldA 3 (.t 3)), none⟩,
    ⟨some 106, .h (.load false 1 (.t 105)), none⟩,
    ⟨some 107, .p (.fieldA 2 (.t 3)), none⟩,
    ⟨some 108, .h (.load false 1 (.t 107)), none⟩,
    ⟨some 109, .p (.fieldA 1 (.t 10)), none⟩,
    ⟨none, .h (.store 1 (.t 109) (.t 106)), none⟩,
    ⟨some 110, .p (.fieldA 2 (.t 10)), none⟩,
    ⟨none, .h (.store 1 (.t 110) (.t 108)), none⟩]) .skip))
  (.seq (.reg [⟨some 111, .p (.fieldA 1 (.t 10)), none⟩,
    ⟨some 112, .h (.load false 1 (.t 111)), none⟩,
    ⟨some 113, .p (.fieldA 3 (.t 3)), none⟩,
    ⟨some 114, .h (.load false 1 (.t 113)), none⟩,
    ⟨some 115, .p (.bin .eql (.t 112) (.t 114)), none⟩,
    ⟨some 116, .p (.mov (.t 115)), none⟩,
    ⟨some 117, .p (.fieldA 2 (.t 10)), (some (116, true))⟩,
    ⟨some 118, .h (.load false 1 (.t 117)), (some (116, true))⟩,
    ⟨some 119, .p (.fieldA 2 (.t 3)), (some (116, true))⟩,
    ⟨some 120, .h (.load false 1 (.t 119)), (some (116, true))⟩,
    ⟨some 121, .p (.bin .eql (.t 118) (.t 120)), (some (116, true))⟩,
    ⟨some 122, .p (.pick (.t 116) (.t 121) (.c (.bool false))), none⟩,
    ⟨some 123, .p (.fieldA 6 (.t 9)), none⟩,
    ⟨none, .h (.store 1 (.t 123) (.t 122)), none⟩])
  (.seq (.seq (.reg [⟨some 124, .p (.fieldA 6 (.t 9)), none⟩,
    ⟨some 125, .h (.load false 1 (.t 124)), none⟩])
  (.cond (.t 125) (.reg [⟨some 126, .p (.fieldA 3 (.t 10)), none⟩,
    ⟨some 127, .h (.load false 1 (.t 126)), none⟩,
    ⟨some 128, .p (.fieldA 4 (.t 3)), none⟩,
    ⟨some 129, .h (.load false 1 (.t 128)), none⟩,
    ⟨some 130, .p (.mm true (.t 127) (.t 129)), none⟩,
    ⟨some 131, .p (.fieldA 3 (.t 10)), none⟩,
    ⟨none, .h (.store 1 (.t 131) (.t 130)), none⟩]) .skip))
  (.seq (.draw 8 [(1, 5), (3, 7), (5, 7), (1, 7)] [⟨some 132, .p (.fieldA 1 (.t 10)), none⟩,
    ⟨some 133, .h (.load false 1 (.t 132)), none⟩,
    ⟨some 134, .p (.fieldA 3 (.t 10)), none⟩,
    ⟨some 135, .h (.load false 1 (.t 134)), none⟩,
    ⟨some 136, .p (.fieldA 7 (.t 9)), none⟩,
    ⟨none, .h (.store 1 (.t 136) (.t 133)), none⟩,
    ⟨some 137, .p (.fieldA 8 (.t 9)), none⟩,
    ⟨none, .h (.store 1 (.t 137) (.t 135)), none⟩])
  (.seq (.reg [⟨some 138, .p (.mov (.t 11)), none⟩,
    ⟨some 139, .p (.mov (.t 7)), none⟩,
    ⟨some 140, .h (.load true 4 (.t 10)), none⟩,
    ⟨some 141, .p (.idxA 4 none (.t 138) (.t 139)), none⟩,
    ⟨none, .h (.store 4 (.t 141) (.t 140)), none⟩])
  (.seq (.draw 8 [(1, 5), (4, 6), (5, 6), (1, 6)] [⟨some 142, .p (.fieldA 0 (.t 2)), none⟩,
    ⟨some 143, .h (.load false 1 (.t 142)), none⟩,
    ⟨some 144, .p (.mov (.t 11)), none⟩,
    ⟨some 145, .v (.build [(.int .i64 0), .nils] [(0, 1, (.t 143)), (1, 1, (.t 144))]), none⟩,
    ⟨some 146, .h (.load true 9 (.t 9)), none⟩,
    ⟨none, .h (.store 2 (.t 4) (.t 145)), none⟩,
    ⟨none, .h (.store 9 (.t 5) (.t 146)), none⟩,
    ⟨some 6, .p (.mov (.c (.int .i64 0))), none⟩])
  .ret))))))))))))))))
theorem ok17b : okF Try.prog 17 147 ac17b rs17 = true := by kernel_rfl
/-- simulacrum/simulacrumref37.Hear -/
def ac28b : AC := (.seq (.reg [⟨some 2, .h (.box (.t 0)), none⟩,
    ⟨some 3, .h (.box (.t 1)), none⟩,
    ⟨some 4, .h (.alloc [(.int .i64 0), .nils, (.int .i64 0), (.int .i64 0), (.int .i64 0), (.int .i64 0), (.int .i64 0), (.int .i64 0), (.bool false), (.int .i64 0), (.int .i64 0), (.int .i64 0)]), none⟩])
  (.seq (.seq (.reg [⟨some 9, .h (.load true 5 (.t 3)), none⟩,
    ⟨some 10, .call 38 [(.t 9)], none⟩,
    ⟨some 11, .p (.un .not (.t 10)), none⟩])
  (.cond (.t 11) (.seq (.reg [⟨some 12, .h (.load true 2 (.t 2)), none⟩,
    ⟨some 13, .v (.build [(.int .i64 0), .nils, (.int .i64 0), (.int .i64 0), (.int .i64 0), (.int .i64 0), (.int .i64 0), (.int .i64 0), (.bool false), (.int .i64 0), (.int .i64 0), (.int .i64 0)] [(0, 2, (.t 12)), (11, 1, (.c (.int .i64 1)))]), none⟩,
    ⟨none, .h (.store 12 (.t 4) (.t 13)), none⟩])
  .ret) .skip))
  (.seq (.reg [⟨some 14, .p (.fieldA 1 (.t 2)), none⟩,
    ⟨some 15, .h (.load false 1 (.t 14)), none⟩,
    ⟨some 16, .p (.fieldA 1 (.t 3)), none⟩,
    ⟨some 17, .h (.load false 1 (.t 16)), none⟩,
    ⟨some 18, .call 39 [(.t 15), (.t 17)], none⟩,
    ⟨some 5, .p (.mov (.t 18)), none⟩])
  (.seq (.seq (.reg [⟨some 19, .p (.mov (.t 5)), none⟩,
    ⟨some 20, .p (.bin .lss (.t 19) (.c (.int .i64 0))), none⟩,
    ⟨some 21, .p (.mov (.t 20)), none⟩,
    ⟨some 22, .p (.fieldA 1 (.t 2)), (some (21, true))⟩,
    ⟨some 23, .h (.load false 1 (.t 22)), (some (21, true))⟩,
    ⟨some 24, .p (.len false (.t 23)), (some (21, true))⟩,
    ⟨some 25, .p (.bin .geq (.t 24) (.c (.int .i64 64))), (some (21, true))⟩,
    ⟨some 26, .p (.pick (.t 21) (.t 25) (.c (.bool false))), none⟩])
  (.cond (.t 26) (.seq (.reg [⟨some 27, .h (.load true 2 (.t 2)), none⟩,
    ⟨some 28, .v (.build [(.int .i64 0), .nils, (.int .i64 0), (.int .i64 0), (.int .i64 0), (.int .i64 0), (.int .i64 0), (.int .i64 0), (.bool false), (.int .i64 0), (.int .i64 0), (.int .i64 0)] [(0, 2, (.t 27)), (11, 1, (.c (.int .i64 2)))]), none⟩,
    ⟨none, .h (.store 12 (.t 4) (.t 28)), none⟩])
  .ret) .skip))
  (.seq (.reg [⟨some 29, .p (.fieldA 0 (.t 2)), none⟩,
    ⟨some 30, .h (.load false 1 (.t 29)), none⟩,
    ⟨some 31, .h (.load true 5 (.t 3)), none⟩,
    ⟨some 32, .v (.build [(.int .i64 0), (.int .i64 0), (.int .i64 0), (.int .i64 0), (.int .i64 0), (.int .i64 0), (.bool false), (.int .i64 0), (.int .i64 0)] [(0, 1, (.t 30)), (1, 5, (.t 31))]), none⟩,
    ⟨some 6, .h (.alloc [(.int .i64 0), (.int .i64 0), (.int .i64 0), (.int .i64 0), (.int .i64 0), (.int .i64 0), (.bool false), (.int .i64 0), (.int .i64 0)]), none⟩,
    ⟨none, .h (.store 9 (.t 6) (.t 32)), none⟩])
  (.seq (.seq (.reg [⟨some 33, .p (.mov (.t 5)), none⟩,
    ⟨some 34, .p (.bin .lss (.t 33) (.c (.int .i64 0))), none⟩])
  (.cond (.t 34) (.seq (.seq (.reg [⟨some 35, .p (.fieldA 0 (.t 3)), none⟩,
    ⟨some 36, .h (.load false 1 (.t 35)), none⟩,
    ⟨some 37, .p (.bin .eql (.t 36) (.c (.int .i64 2))), none⟩])
  (.cond (.t 37) (.seq (.reg [⟨some 38, .h (.load true 2 (.t 2)), none⟩,
    ⟨some 39, .h (.load true 9 (.t 6)), none⟩,
    ⟨some 40, .v (.build [(.int .i64 0), .nils, (.int .i64 0), (.int .i64 0), (.int .i64 0), (.int .i64 0), (.int .i64 0), (.int .i64 0), (.bool false), (.int .i64 0), (.int .i64 0), (.int .i64 0)] [(0, 2, (.t 38)), (2, 9, (.t 39))]), none⟩,
    ⟨none, .h (.store 12 (.t 4) (.t 40)), none⟩])
  .ret) .skip))
  (.seq (.reg [⟨some 41, .p (.fieldA 6 (.t 6)), none⟩,
    ⟨none, .h (.store 1 (.t 41) (.c (.bool true))), none⟩])
  (.seq (.reg [⟨some 42, .p (.fieldA 3 (.t 3)), none⟩,
    ⟨some 43, .h (.load false 1 (.t 42)), none⟩,
    ⟨some 44, .p (.fieldA 7 (.t 6)), none⟩,
    ⟨none, .h (.store 1 (.t 44) (.t 43)), none⟩])
  (.seq (.draw 16 [(1, 15), (3, 15), (5, 15), (7, 15), (9, 15), (13, 15)] [⟨some 45, .p (.fieldA 0 (.t 2)), none⟩,
    ⟨some 46, .h (.load false 1 (.t 45)), none⟩,
    ⟨some 47, .p (.fieldA 1 (.t 2)), none⟩,
    ⟨some 48, .h (.load false 1 (.t 47)), none⟩,
    ⟨some 49, .p (.fieldA 1 (.t 3)), none⟩,
    ⟨some 50, .h (.load false 1 (.t 49)), none⟩,
    ⟨some 51, .p (.fieldA 3 (.t 3)), none⟩,
    ⟨some 52, .h (.load false 1 (.t 51)), none⟩,
    ⟨some 53, .p (.fieldA 2 (.t 3)), none⟩,
    ⟨some 54, .h (.load false 1 (.t 53)), none⟩,
    ⟨some 55, .v (.build [(.int .i64 0), (.int .i64 0), (.int .i64 0), (.int .i64 0)] [(0, 1, (.t 50)), (1, 1, (.t 52)), (2, 1, (.t 54))]), none⟩,
    ⟨some 56, .call 40 [(.t 48), (.t 55)], none⟩,
    ⟨some 57, .v (.build [(.int .i64 0), .nils] [(0, 1, (.t 46)), (1, 1, (.t 56))]), none⟩,
    ⟨some 58, .h (.load true 9 (.t 6)), none⟩,
    ⟨some 59, .v (.build [(.int .i64 0), .nils, (.int .i64 0), (.int .i64 0), (.int .i64 0), (.int .i64 0), (.int .i64 0), (.int .i64 0), (.bool false), (.int .i64 0), (.int .i64 0), (.int .i64 0)] [(0, 2, (.t 57)), (2, 9, (.t 58))]), none⟩,
    ⟨none, .h (.store 12 (.t 4) (.t 59)), none⟩])
  .ret)))) .skip))
  (.seq (.draw 9 [(2, 5), (4, 5), (7, 8), (5, 8), (1, 8), (2, 8), (4, 8)] [⟨some 60, .p (.fieldA 0 (.t 2)), none⟩,
    ⟨some 61, .h (.load false 1 (.t 60)), none⟩,
    ⟨some 62, .l (.bslice 4 0 [(.int .i64 0), (.int .i64 0), (.int .i64 0), (.int .i64 0)] []), none⟩,
    ⟨some 63, .p (.fieldA 1 (.t 2)), none⟩,
    ⟨some 64, .h (.load false 1 (.t 63)), none⟩,
    ⟨some 65, .l (.append 4 32 (.t 62) (.t 64)), none⟩,
    ⟨some 66, .v (.build [(.int .i64 0), .nils] [(0, 1, (.t 61)), (1, 1, (.t 65))]), none⟩,
    ⟨some 7, .h (.alloc [(.int .i64 0), .nils]), none⟩,
    ⟨none, .h (.store 2 (.t 7) (.t 66)), none⟩])
  (.seq (.reg [⟨some 67, .p (.fieldA 1 (.t 7)), none⟩,
    ⟨some 68, .h (.load false 1 (.t 67)), none⟩,
    ⟨some 69, .p (.mov (.t 5)), none⟩,
    ⟨some 70, .p (.idxA 4 none (.t 68) (.t 69)), none⟩,
    ⟨some 71, .h (.load true 4 (.t 70)), none⟩,
    ⟨some 8, .h (.alloc [(.int .i64 0), (.int .i64 0), (.int .i64 0), (.int .i64 0)]), none⟩,
    ⟨none, .h (.store 4 (.t 8) (.t 71)), none⟩])
  (.seq (.seq (.reg [⟨some 72, .p (.fieldA 0 (.t 3)), none⟩,
    ⟨some 73, .h (.load false 1 (.t 72)), none⟩,
    ⟨some 74, .p (.bin .eql (.t 73) (.c (.int .i64 1))), none⟩,
    ⟨some 75, .p (.mov (.t 74)), none⟩,
    ⟨some 76, .p (.fieldA 3 (.t 3)), (some (75, true))⟩,
    ⟨some 77, .h (.load false 1 (.t 76)), (some (75, true))⟩,
    ⟨some 78, .p (.fieldA 1 (.t 8)), (some (75, true))⟩,
    ⟨some 79, .h (.load false 1 (.t 78)), (some (75, true))⟩,
    ⟨some 80, .p (.bin .gtr (.t 77) (.t 79)), (some (75, true))⟩,
    ⟨some 81, .p (.pick (.t 75) (.t 80) (.c (.bool false))), none⟩])
  (.cond (.t 81) (.seq (.reg [⟨some 82, .p (.fieldA 3 (.t 3)), none⟩,
    ⟨some 83, .h (.load false 1 (.t 82)), none⟩,
    ⟨some 84, .p (.fieldA 1 (.t 8)), none⟩,
    ⟨none, .h (.store 1 (.t 84) (.t 83)), none⟩])
  (.reg [⟨some 85, .p (.fieldA 2 (.t 3)), none⟩,
    ⟨some 86, .h (.load false 1 (.t 85)), none⟩,
    ⟨some 87, .p (.fieldA 2 (.t 8)), none⟩,
    ⟨none, .h (.store 1 (.t 87) (.t 86)), none⟩])) .skip))
  (.seq (.reg [⟨some 88, .p (.fieldA 1 (.t 8)), none⟩,
    ⟨some 89, .h (.load false 1 (.t 88)), none⟩,
    ⟨some 90, .p (.fieldA 3 (.t 3)), none⟩,
    ⟨some 91, .h (.load false 1 (.t 90)), none⟩,
    ⟨some 92, .p (.bin .eql (.t 89) (.t 91)), none⟩,
    ⟨some 93, .p (.mov (.t 92)), none⟩,
    ⟨some 94, .p (.fieldA 2 (.t 8)), (some (93, true))⟩,
    ⟨some 95, .h (.load false 1 (.t 94)), (some (93, true))⟩,
    ⟨some 96, .p (.fieldA 2 (.t 3)), (some (93, true))⟩,
    ⟨some 97, .h (.load false 1 (.t 96)), (some (93, true))⟩,
    ⟨some 98, .p (.bin .eql (.t 95) (.t 97)), (some (93, true))⟩,
    ⟨some 99, .p (.pick (.t 93) (.t 98) (.c (.bool false))), none⟩,
    ⟨some 100, .p (.fieldA 6 (.t 6)), none⟩,
    ⟨none, .h (.store 1 (.t 100) (.t 99)), none⟩])
  (.seq (.seq (.reg [⟨some 101, .p (.fieldA 0 (.t 3)), none⟩,
    ⟨some 102, .h (.load false 1 (.t 101)), none⟩,
    ⟨some 103, .p (.bin .eql (.t 102) (.c (.int .i64 2))), none⟩,
    ⟨some 104, .p (.mov (.t 103)), none⟩,
    ⟨some 105, .p (.fieldA 6 (.t 6)), (some (104, true))⟩,
    ⟨some 106, .h (.load false 1 (.t 105)), (some (104, true))⟩,
    ⟨some 107, .p (.pick (.t 104) (.t 106) (.c (.bool false))), none⟩])
  (.cond (.t 107) (.reg [⟨some 108, .p (.fieldA 3 (.t 8)), none⟩,
    ⟨some 109, .h (.load false 1 (.t 108)), none⟩,
    ⟨some 110, .p (.fieldA 4 (.t 3)), none⟩,
    ⟨some 111, .h (.load false 1 (.t 110)), none⟩,
    ⟨some 112, .p (.mm true (.t 109) (.t 111)), none⟩,
    ⟨some 113, .p (.fieldA 3 (.t 8)), none⟩,
    ⟨none, .h (.store 1 (.t 113) (.t 112)), none⟩]) .skip))
  (.seq (.reg [⟨some 114, .p (.fieldA 1 (.t 7)), none⟩,
    ⟨some 115, .h (.load false 1 (.t 114)), none⟩,
    ⟨some 116, .p (.mov (.t 5)), none⟩,
    ⟨some 117, .h (.load true 4 (.t 8)), none⟩,
    ⟨some 118, .p (.idxA 4 none (.t 115) (.t 116)), none⟩,
    ⟨none, .h (.store 4 (.t 118) (.t 117)), none⟩])
  (.seq (.reg [⟨some 119, .p (.fieldA 1 (.t 8)), none⟩,
    ⟨some 120, .h (.load false 1 (.t 119)), none⟩,
    ⟨some 121, .p (.fieldA 7 (.t 6)), none⟩,
    ⟨none, .h (.store 1 (.t 121) (.t 120)), none⟩])
  (.seq (.reg [⟨some 122, .p (.fieldA 3 (.t 8)), none⟩,
    ⟨some 123, .h (.load false 1 (.t 122)), none⟩,
    ⟨some 124, .p (.fieldA 8 (.t 6)), none⟩,
    ⟨none, .h (.store 1 (.t 124) (.t 123)), none⟩])
  (.seq (.reg [⟨some 125, .h (.load true 2 (.t 7)), none⟩,
    ⟨some 126, .h (.load true 9 (.t 6)), none⟩,
    ⟨some 127, .v (.build [(.int .i64 0), .nils, (.int .i64 0), (.int .i64 0), (.int .i64 0), (.int .i64 0), (.int .i64 0), (.int .i64 0), (.bool false), (.int .i64 0), (.int .i64 0), (.int .i64 0)] [(0, 2, (.t 125)), (2, 9, (.t 126))]), none⟩,
    ⟨none, .h (.store 12 (.t 4) (.t 127)), none⟩])
  .ret)))))))))))))))
theorem ok28b : okF Try.prog 28 128 ac28b rs28 = true := by kernel_rfl
end Go.Proofs

namespace Go.Proofs
open Go Go.Eng
set_option maxRecDepth 100000
set_option maxHeartbeats 4000000
def Kep.none : Kep := ⟨0, 0, 0, 0⟩
def lowK (p : Ple) (l : List Kep) (k : Nat) : Bool := decide (p.m ≤ (l[k]?.getD .none).m)
/-- What the search finds. -/
structure Found (l : List Kep) (m : Int) (r : Nat) : Prop where
  le : r ≤ l.length
  lo : ∀ k (h : k < r) (hl : k < l.length), l[k].m < m
  hi : ∀ k (h : r ≤ k) (hl : k < l.length), m ≤ l[k].m
structure Kept1 (l : List Kep) : Prop where
  len : l.length ≤ 64
  asc : ∀ i j (hi : i < l.length) (hj : j < l.length), i < j → l[i].m < l[j].m
theorem c36w (id : Int) (l : List Kep) (cap : Option Nat) (p : Ple) (hl : Kept1 l) : CallA Try.prog 36 [I l.length, .func 37 [.ptr 0 0, .ptr 1 0]] (hHeap id l cap p) fun v H' => ∃ r : Nat, Found l p.m r ∧ v = I r ∧ H' = hHeap id l cap p := by
  refine CallA.mono (c36 l.length 37 [.ptr 0 0, .ptr 1 0] (lowK p l) (hHeap id l cap p) (by have := hl.len; omega) ?_ ?_) ?_
  · intro k j hkj hj h
    simp only [lowK, decide_eq_true_eq] at h ⊢
    rw [List.getElem?_eq_getElem hj]
    rw [List.getElem?_eq_getElem (by omega)] at h
    simp only [Option.getD_some] at h ⊢
    rcases Nat.lt_or_eq_of_le hkj with e | e
    · have := hl.asc k j (by omega) hj e; omega
    · subst e; exact h
  · intro k hk
    have := c37 id l cap p k hk
    simp only [lowK, List.getElem?_eq_getElem hk, Option.getD_some]
    exact this
  · rintro v H ⟨r, h1, h2, h3, rfl, rfl⟩
    refine ⟨r, ⟨h1, fun k h hk => ?_, fun k h hk => ?_⟩, rfl, rfl⟩
    · have := h2 k h
      simp only [lowK, List.getElem?_eq_getElem hk, Option.getD_some, decide_eq_false_iff_not] at this
      omega
    · have := h3 k h hk
      simp only [lowK, List.getElem?_eq_getElem hk, Option.getD_some, decide_eq_true_eq] at this
      exact this
def Gra.zero : Gra := ⟨0, .zero, false, 0, 0⟩
def hearK (k : Kep) (p : Ple) : Kep := if p.k = 1 ∧ k.e < p.e then { k with e := p.e, h := p.h } else k
def agrK (k : Kep) (p : Ple) : Bool := decide (k.e = p.e) && decide (k.h = p.h)
def uptK (k : Kep) (p : Ple) : Kep := if agrK k p then { k with u := mx k.u p.u } else k
def newK (k : Kep) (p : Ple) : Kep := uptK (hearK k p) p
def graK (id : Int) (k : Kep) (p : Ple) : Gra := ⟨id, p, agrK (hearK k p) p, (newK k p).e, (newK k p).u⟩
structure Heard where
  (l : List Kep) (cap : Option Nat) (g : Gra) (e : Int)
def hearW (id : Int) (l : List Kep) (cap : Option Nat) (p : Ple) (r : Nat) : Heard :=
  if p.ok then
    match l[r]? with
    | some k => if k.m = p.m then ⟨l.take r ++ newK k p :: l.drop (r + 1), none, graK id k p, 0⟩ else
      if (64 : Int) ≤ (l.length : Int) then ⟨l, cap, .zero, 2⟩ else if p.k = 2 then ⟨l, cap, ⟨id, p, false, 0, 0⟩, 0⟩ else ⟨l.take r ++ newK ⟨p.m, 0, 0, 0⟩ p :: l.drop r, none, graK id ⟨p.m, 0, 0, 0⟩ p, 0⟩
    | none => if (64 : Int) ≤ (l.length : Int) then ⟨l, cap, .zero, 2⟩ else if p.k = 2 then ⟨l, cap, ⟨id, p, false, 0, 0⟩, 0⟩ else ⟨l.take r ++ newK ⟨p.m, 0, 0, 0⟩ p :: l.drop r, none, graK id ⟨p.m, 0, 0, 0⟩ p, 0⟩
  else ⟨l, cap, .zero, 1⟩
def Heard.av (id : Int) (x : Heard) : AV := .tuple [.agg (wav id x.l x.cap), .agg x.g.av, I x.e]
theorem scal_take {l : List AV} {n : Nat} (h : ∀ c ∈ l, scal c = true) : ∀ c ∈ l.take n, scal c = true := fun c hc => h c (List.mem_of_mem_take hc)
theorem scal_drop {l : List AV} {n : Nat} (h : ∀ c ∈ l, scal c = true) : ∀ c ∈ l.drop n, scal c = true := fun c hc => h c (List.mem_of_mem_drop hc)
theorem scal_nil : ∀ c ∈ ([] : List AV), scal c = true := fun c hc => by cases hc
theorem scal_int {k : IntKind} {n : Int} {l : List AV} (h : ∀ c ∈ l, scal c = true) : ∀ c ∈ AV.int k n :: l, scal c = true := fun c hc => by
  rcases List.mem_cons.1 hc with rfl | hc
  · rfl
  · exact h c hc
theorem lputK_at {cs : List AV} {l : List Kep} {i : Nat} {off : Nat} {a b c d : Int} {K : List AV → Prop} (hcs : cs = kcells l) (hi : i < l.length) (ho : off = i * 4) (h : K (kcells (l.take i ++ ⟨a, b, c, d⟩ :: l.drop (i + 1)))) : lputK cs off [I a, I b, I c, I d] K := by
  subst hcs; subst ho
  refine lputK_eq (by simp only [kcells_length, List.length_cons, List.length_nil]; omega) rfl ?_
  simp only [List.length_cons, List.length_nil]
  rw [kcells_take, show i * 4 + (0 + 1 + 1 + 1 + 1) = (i + 1) * 4 by omega, kcells_drop, List.append_assoc]
  have : kcells (l.take i ++ ⟨a, b, c, d⟩ :: l.drop (i + 1)) = kcells (l.take i) ++ ([I a, I b, I c, I d] ++ kcells (l.drop (i + 1))) := by rw [kcells_append]; rfl
  rw [← this]; exact h
theorem kcells_tail {l : List Kep} {r : Nat} : List.take ((l.length - r) * 4) (kcells (l.drop r)) = kcells (l.drop r) := by
  rw [kcells_take, List.take_of_length_le (by simp)]
theorem kcells_all {l : List Kep} : List.take (l.length * 4) (kcells l) = kcells l := by
  rw [kcells_take, List.take_of_length_le (Nat.le_refl _)]
theorem wit_eq {id : Int} {L L' : List Kep} {n : Nat} {g : List AV} {g' : Gra} (hL : L = L') (hn : n = L'.length) (hg : g = g'.av) : AV.tuple [.agg [I id, .dslice (((kcells L).drop 0).take (n * 4)) n none], .agg g, I 0] = Heard.av id ⟨L', none, g', 0⟩ := by
  subst hL; subst hn; subst hg
  rw [List.drop_zero, kcells_all]; rfl
theorem cut_at {l : List Kep} {r : Nat} {x : Kep} (h : r ≤ l.length) : (l.take r ++ x :: l.drop r).take r = l.take r ∧ (l.take r ++ x :: l.drop r).drop (r + 1) = l.drop r := by
  have hl : (l.take r).length = r := by simp; omega
  constructor
  · rw [List.take_append_of_le_length (by omega), List.take_of_length_le (by omega)]
  · rw [show r + 1 = (l.take r).length + 1 by omega, List.drop_append]; simp [hl]
def pubK (H : Heap) (k : Nat) (F : List AV → Prop) : Prop := match H.get k with
  | .cells ds => F ds
  | _ => False
theorem ret_wit {n k len : Nat} {K : AV → Heap → Prop} {c x : AV} {cap : Option Nat} {g : List AV} {H : Heap} (h : pubK H k fun ds => (∀ c ∈ ds, noLoc c = true) ∧ RetA n K (pubV k ds (.tuple [.agg [c, .slice k 0 len cap 4], .agg g, x])) (pubH k ds H)) :
    RetA n K (one [.agg [c, .slice k 0 len cap 4], .agg g, x]) H := by
  unfold pubK at h
  split at h
  · exact RetA.pub k ‹_› h.1 h.2
  · exact h.elim
theorem kn_sub (a b : Nat) : ((a : Int) - (b : Int)).toNat = a - b := by omega
theorem kn_succ (a : Nat) : ((a : Int) + 1).toNat = a + 1 := by omega
theorem kn_sub1 (a b : Nat) : ((a : Int) - ((b : Int) + 1)).toNat = a - (b + 1) := by omega
theorem kn_z (l : List AV) : List.drop (Int.toNat 0 * 4) l = l := by simp
theorem kn_rep (l : List AV) : rep l 0 = [] := rfl
theorem kn_four (k : Kep) : List.take (1 * 4) (I k.m :: I k.e :: I k.h :: I k.u :: []) = kcells [k] := rfl
theorem kn_take0 (l : List Kep) (n : Nat) : List.take (0 * 4) l = [] := by simp
theorem kn_app0 (l : List Kep) : kcells ([] ++ l) = kcells l := rfl
theorem kn_one (a b c d : Int) : List.take (1 * 4) (I a :: I b :: I c :: I d :: []) = kcells [⟨a, b, c, d⟩] := rfl
theorem take_drop_all (l : List Kep) (r : Nat) : (l.drop r).take (l.length - r) = l.drop r := List.take_of_length_le (by simp)
theorem kn_cat (a : List Kep) (x : Kep) (b : List Kep) : kcells (a ++ [x] ++ b) = kcells (a ++ x :: b) := by simp
def rank (l : List Kep) (m : Int) : Nat := l.findIdx (fun k => decide (m ≤ k.m))
theorem found_rank (l : List Kep) (m : Int) (hl : Kept1 l) : Found l m (rank l m) := by
  unfold rank
  refine ⟨List.findIdx_le_length, fun k h hk => ?_, fun k h hk => ?_⟩
  · have := List.not_of_lt_findIdx h
    simp at this; exact this
  · have hlt : l.findIdx (fun k => decide (m ≤ k.m)) < l.length := by omega
    have h1 := List.findIdx_getElem (w := hlt)
    simp only [decide_eq_true_eq] at h1
    rcases Nat.lt_or_eq_of_le h with e | e
    · have := hl.asc _ k hlt hk e; omega
    · simp only [← e]; exact h1
theorem found_unique {l : List Kep} {m : Int} {r s : Nat} (h : Found l m r) (k : Found l m s) : r = s := by
  rcases Nat.lt_trichotomy r s with e | e | e
  · have hr : r < l.length := by have := k.le; omega
    have := h.hi r (Nat.le_refl _) hr
    have := k.lo r e hr
    omega
  · exact e
  · have hr : s < l.length := by have := h.le; omega
    have := k.hi s (Nat.le_refl _) hr
    have := h.lo s e hr
    omega
theorem cut_at2 {l m : List Kep} {r : Nat} {x : Kep} (h : r ≤ l.length) : (l.take r ++ x :: m).take r = l.take r ∧ (l.take r ++ x :: m).drop (r + 1) = m := by
  have hl : (l.take r).length = r := by simp; omega
  constructor
  · rw [List.take_append_of_le_length (by omega), List.take_of_length_le (by omega)]
  · rw [show r + 1 = (l.take r).length + 1 by omega, List.drop_append]; simp [hl]
theorem kep_eq {a b : Kep} (h1 : a.m = b.m) (h2 : a.e = b.e) (h3 : a.h = b.h) (h4 : a.u = b.u) : a = b := by
  cases a; cases b; simp only at h1 h2 h3 h4; subst h1 h2 h3 h4; rfl
theorem gra_eq {id e u : Int} {k : Kep} {p : Ple} {ag : Bool} (h1 : ag = agrK (hearK k p) p) (h2 : e = (newK k p).e) (h3 : u = (newK k p).u) : [I id, I p.k, I p.m, I p.h, I p.e, I p.u, .bool ag, I e, I u] = (graK id k p).av := by
  subst h1 h2 h3; rfl
theorem hearW_known {id : Int} {l : List Kep} {cap : Option Nat} {p : Ple} {r : Nat} (hok : p.ok = true) (h : r < l.length) (hm : l[r].m = p.m) : hearW id l cap p r = ⟨l.take r ++ newK l[r] p :: l.drop (r + 1), none, graK id l[r] p, 0⟩ := by
  simp only [hearW, hok, if_true, List.getElem?_eq_getElem h, hm]
def unk (l : List Kep) (p : Ple) (r : Nat) : Prop := ∀ h : r < l.length, l[r].m ≠ p.m
theorem hearW_limit {id : Int} {l : List Kep} {cap : Option Nat} {p : Ple} {r : Nat} (hok : p.ok = true) (hu : unk l p r) (h : (64 : Int) ≤ (l.length : Int)) : hearW id l cap p r = ⟨l, cap, .zero, 2⟩ := by
  unfold hearW
  rw [if_pos hok]
  split
  · rename_i k hk
    obtain ⟨hr, rfl⟩ := List.getElem?_eq_some_iff.1 hk
    rw [if_neg (hu hr), if_pos h]
  · rw [if_pos h]
theorem hearW_conf {id : Int} {l : List Kep} {cap : Option Nat} {p : Ple} {r : Nat} (hok : p.ok = true) (hu : unk l p r) (h : ¬ (64 : Int) ≤ (l.length : Int)) (h2 : p.k = 2) : hearW id l cap p r = ⟨l, cap, ⟨id, p, false, 0, 0⟩, 0⟩ := by
  unfold hearW
  rw [if_pos hok]
  split
  · rename_i k hk
    obtain ⟨hr, rfl⟩ := List.getElem?_eq_some_iff.1 hk
    rw [if_neg (hu hr), if_neg h, if_pos h2]
  · rw [if_neg h, if_pos h2]
theorem hearW_new {id : Int} {l : List Kep} {cap : Option Nat} {p : Ple} {r : Nat} (hok : p.ok = true) (hu : unk l p r) (h : ¬ (64 : Int) ≤ (l.length : Int)) (h2 : ¬ p.k = 2) : hearW id l cap p r = ⟨l.take r ++ newK ⟨p.m, 0, 0, 0⟩ p :: l.drop r, none, graK id ⟨p.m, 0, 0, 0⟩ p, 0⟩ := by
  unfold hearW
  rw [if_pos hok]
  split
  · rename_i k hk
    obtain ⟨hr, rfl⟩ := List.getElem?_eq_some_iff.1 hk
    rw [if_neg (hu hr), if_neg h, if_neg h2]
  · rw [if_neg h, if_neg h2]
set_option maxHeartbeats 0 in
theorem c17 (id : Int) (l : List Kep) (cap : Option Nat) (p : Ple) (hl : Kept1 l) : CallA Try.prog 17 [.agg (wav id l cap), .agg p.av] Heap.nil fun v H' => v = (hearW id l cap p (rank l p.m)).av id ∧ H' = Heap.nil := by
  refine callA_of ok17b (Nat.le_of_ble_eq_true rfl) ?_
  repeat' ((conv => whnf); first
      | refine Branch.ofT rfl ?_
      | refine Branch.ofF rfl ?_
      | refine Branch.dec (fun h => ?_) (fun h => ?_)
      | refine Branch.negdec (fun h => ?_) (fun h => ?_)
      | refine Branch.neg (fun h => ?_) (fun h => ?_)
      | refine Branch.mk (fun h => ?_) (fun h => ?_)
      | (refine Side.mk ?_ ?_; · first | omega | decide)
      | (refine SideD.mk ?_ ?_; · first | omega | decide)
      | refine ⟨_, Nat.lt_succ_self _, To.refl (.inl ⟨rfl, ?_⟩)⟩
      | refine CallA.pure (c35 p) rfl rfl ?_
      | (refine Side.mk ?_ ?_; · (simp; done))
      | fail
      )
  all_goals (conv => whnf)
  · have hok : p.ok = false := by assumption
    refine RetA.data rfl ⟨?_, rfl⟩
    simp [hearW, hok, Heard.av, wav, Gra.av, Gra.zero, Ple.zero, one]
  · refine CallA.lent (Q := fun v => ∃ r : Nat, Found l p.m r ∧ v = I r) [(0, true), (1, true)] (CallA.mono (c36w id l cap p hl) (by rintro v H ⟨r, h1, h2, h3⟩; exact ⟨⟨r, h1, h2⟩, h3⟩)) rfl rfl ⟨wav_noLoc id l cap, ple_noLoc p, trivial⟩ rfl ⟨wav_noLoc id l cap, ple_noLoc p, trivial⟩ (by rintro v ⟨r, _, rfl⟩; rfl) ?_
    rintro v ⟨r, hr, rfl⟩
    obtain rfl := found_unique hr (found_rank l p.m hl)
    generalize hrk : rank l p.m = r at hr
    have hok : p.ok = true := by assumption
    have e1 := hr.le
    have e2 := hl.len
    have e3 := kcells_length l
    (conv => whnf)
    refine Branch.dec (fun hlt0 => ?_) (fun hlt0 => ?_)
    · have hlt : r < l.length := by omega
      by_cases hm : l[r].m = p.m
      · repeat' ((conv => whnf); first
            | refine Branch.ofT rfl ?_
            | refine Branch.ofF rfl ?_
            | refine SideD.at (by omega) (kcells_at hlt) ?_
            | refine Branch.ofT (decide_eq_true hm) ?_
            | refine Branch.ofF (show (!decide (l[r].m = p.m)) = false by rw [decide_eq_true hm]; rfl) ?_
            | refine Branch.dec (fun h => ?_) (fun h => ?_)
            | refine Branch.negdec (fun h => ?_) (fun h => ?_)
            | refine Branch.neg (fun h => ?_) (fun h => ?_)
            | refine Branch.mk (fun h => ?_) (fun h => ?_)
            | (refine Side.mk ?_ ?_; · first | omega | decide)
            | (refine SideD.mk ?_ ?_; · first | omega | decide)
            | refine ⟨_, Nat.lt_succ_self _, To.refl (.inl ⟨rfl, ?_⟩)⟩
            | (refine Side.mk ?_ ?_; · ((repeat' apply And.intro) <;> first | omega | rfl | exact Nat.zero_le _ | (simp only [fits, List.length_append, List.length_take, List.length_drop, List.length_cons, List.length_nil, kcells_length]; omega) | (simp only [List.length_append, List.length_take, List.length_drop, List.length_cons, List.length_nil, kcells_length, rep]; omega) | (repeat' first | exact kcells_scal l | exact scal_nil | apply scal_take | apply scal_drop | apply scal_int)))
            | (refine lputK_at (l := l.take r ++ l[r] :: l.drop (r + 1)) (i := r) (by simp only [kn_z, kn_rep, kn_succ, kn_sub1, kn_sub, kn_take0, kn_app0, kn_one, kn_four, Int.toNat_natCast, Int.toNat_zero, Int.sub_zero, kcells_take, kcells_drop, Nat.zero_mul, Nat.zero_add, List.drop_zero, List.take_zero, List.nil_append, rep, List.append_eq, List.append_nil, List.take_take, Nat.min_self, take_drop_all, ← kcells_append, kn_cat]; done) (by simp; omega) (by omega) ?_)
            | (refine Side.mk ?_ ?_; · (simp; done))
            | fail
            )
        all_goals (conv => whnf)
        all_goals (refine ret_wit ?_; (conv => whnf); refine ⟨kcells_noLoc _, RetA.data rfl ⟨?_, rfl⟩⟩)
        all_goals rw [hearW_known hok hlt hm]
        all_goals (refine Eq.trans (b := AV.tuple [.agg [I id, .dslice (((kcells _).drop 0).take (_ * 4)) _ none], .agg _, I 0]) (by exact rfl) (wit_eq ?_ ?_ ?_))
        all_goals (try (rw [(cut_at2 hr.le).1, (cut_at2 hr.le).2]; congr 2; (try simp only [newK, uptK, hearK, agrK, mx]); simp_all; done))
        all_goals (try (simp only [List.length_append, List.length_take, List.length_drop, List.length_cons, kn_sub, kn_sub1]; omega))
        all_goals (try (simp only [pubL, pubV, Gra.av, graK, newK, uptK, hearK, agrK, mx]; simp_all; done))
        all_goals (try (rw [(cut_at2 hr.le).1, (cut_at2 hr.le).2]; congr 2; apply kep_eq <;> (simp only [newK, uptK, hearK, agrK, mx]; grind)))
        all_goals (try (simp only [pubL, pubV]; apply gra_eq <;> (simp only [newK, uptK, hearK, agrK, mx]; grind)))
      · have hu : unk l p r := fun _ => hm
        repeat' ((conv => whnf); first
            | refine Branch.ofT rfl ?_
            | refine Branch.ofF rfl ?_
            | refine SideD.at (by omega) (kcells_at hlt) ?_
            | refine Branch.ofF (decide_eq_false hm) ?_
            | refine Branch.ofT (show (!decide (l[r].m = p.m)) = true by rw [decide_eq_false hm]; rfl) ?_
            | refine Branch.dec (fun h => ?_) (fun h => ?_)
            | refine Branch.negdec (fun h => ?_) (fun h => ?_)
            | refine Branch.neg (fun h => ?_) (fun h => ?_)
            | refine Branch.mk (fun h => ?_) (fun h => ?_)
            | (refine Side.mk ?_ ?_; · first | omega | decide)
            | (refine SideD.mk ?_ ?_; · first | omega | decide)
            | refine ⟨_, Nat.lt_succ_self _, To.refl (.inl ⟨rfl, ?_⟩)⟩
            | (refine Side.mk ?_ ?_; · ((repeat' apply And.intro) <;> first | omega | rfl | exact Nat.zero_le _ | (simp only [fits, List.length_append, List.length_take, List.length_drop, List.length_cons, List.length_nil, kcells_length]; omega) | (simp only [List.length_append, List.length_take, List.length_drop, List.length_cons, List.length_nil, kcells_length, rep]; omega) | (repeat' first | exact kcells_scal l | exact scal_nil | apply scal_take | apply scal_drop | apply scal_int)))
            | (refine lputK_at (l := l.take r ++ ⟨p.m, 0, 0, 0⟩ :: l.drop r) (i := r) (by simp only [kn_z, kn_rep, kn_succ, kn_sub1, kn_sub, kn_take0, kn_app0, kn_one, kn_four, Int.toNat_natCast, Int.toNat_zero, Int.sub_zero, kcells_take, kcells_drop, Nat.zero_mul, Nat.zero_add, List.drop_zero, List.take_zero, List.nil_append, rep, List.append_eq, List.append_nil, List.take_take, Nat.min_self, take_drop_all, ← kcells_append, kn_cat]; done) (by simp; omega) (by omega) ?_)
            | (refine Side.mk ?_ ?_; · (simp; done))
            | fail
            )
        all_goals (conv => whnf)
        · refine RetA.data rfl ⟨?_, rfl⟩
          rw [hearW_limit hok hu (by assumption)]; rfl
        · refine RetA.data rfl ⟨?_, rfl⟩
          rw [hearW_conf hok hu (by assumption) (by assumption)]; rfl
        all_goals (refine ret_wit ?_; (conv => whnf); refine ⟨kcells_noLoc _, RetA.data rfl ⟨?_, rfl⟩⟩)
        all_goals rw [hearW_new hok hu (by assumption) (by assumption)]
        all_goals (refine Eq.trans (b := AV.tuple [.agg [I id, .dslice (((kcells _).drop 0).take (_ * 4)) _ none], .agg _, I 0]) (by exact rfl) (wit_eq ?_ ?_ ?_))
        all_goals (try (rw [(cut_at2 hr.le).1, (cut_at2 hr.le).2]; congr 2; (try simp only [newK, uptK, hearK, agrK, mx]); simp_all; done))
        all_goals (try (simp only [List.length_append, List.length_take, List.length_drop, List.length_cons, kn_sub, kn_sub1]; omega))
        all_goals (try (simp only [pubL, pubV, Gra.av, graK, newK, uptK, hearK, agrK, mx]; simp_all; done))
        all_goals (try (rw [(cut_at2 hr.le).1, (cut_at2 hr.le).2]; congr 2; apply kep_eq <;> (simp only [newK, uptK, hearK, agrK, mx]; grind)))
        all_goals (try (simp only [pubL, pubV]; apply gra_eq <;> (simp only [newK, uptK, hearK, agrK, mx]; grind)))
    · have hu : unk l p r := fun h => absurd h (by omega)
      · repeat' ((conv => whnf); first
            | refine Branch.ofT rfl ?_
            | refine Branch.ofF rfl ?_
            | refine Branch.dec (fun h => ?_) (fun h => ?_)
            | refine Branch.negdec (fun h => ?_) (fun h => ?_)
            | refine Branch.neg (fun h => ?_) (fun h => ?_)
            | refine Branch.mk (fun h => ?_) (fun h => ?_)
            | (refine Side.mk ?_ ?_; · first | omega | decide)
            | (refine SideD.mk ?_ ?_; · first | omega | decide)
            | refine ⟨_, Nat.lt_succ_self _, To.refl (.inl ⟨rfl, ?_⟩)⟩
            | (refine Side.mk ?_ ?_; · ((repeat' apply And.intro) <;> first | omega | rfl | exact Nat.zero_le _ | (simp only [fits, List.length_append, List.length_take, List.length_drop, List.length_cons, List.length_nil, kcells_length]; omega) | (simp only [List.length_append, List.length_take, List.length_drop, List.length_cons, List.length_nil, kcells_length, rep]; omega) | (repeat' first | exact kcells_scal l | exact scal_nil | apply scal_take | apply scal_drop | apply scal_int)))
            | (refine lputK_at (l := l.take r ++ ⟨p.m, 0, 0, 0⟩ :: l.drop r) (i := r) (by simp only [kn_z, kn_rep, kn_succ, kn_sub1, kn_sub, kn_take0, kn_app0, kn_one, kn_four, Int.toNat_natCast, Int.toNat_zero, Int.sub_zero, kcells_take, kcells_drop, Nat.zero_mul, Nat.zero_add, List.drop_zero, List.take_zero, List.nil_append, rep, List.append_eq, List.append_nil, List.take_take, Nat.min_self, take_drop_all, ← kcells_append, kn_cat]; done) (by simp; omega) (by omega) ?_)
            | (refine Side.mk ?_ ?_; · (simp; done))
            | fail
            )
        all_goals (conv => whnf)
        · refine RetA.data rfl ⟨?_, rfl⟩
          rw [hearW_limit hok hu (by assumption)]; rfl
        · refine RetA.data rfl ⟨?_, rfl⟩
          rw [hearW_conf hok hu (by assumption) (by assumption)]; rfl
        all_goals (refine ret_wit ?_; (conv => whnf); refine ⟨kcells_noLoc _, RetA.data rfl ⟨?_, rfl⟩⟩)
        all_goals rw [hearW_new hok hu (by assumption) (by assumption)]
        all_goals (refine Eq.trans (b := AV.tuple [.agg [I id, .dslice (((kcells _).drop 0).take (_ * 4)) _ none], .agg _, I 0]) (by exact rfl) (wit_eq ?_ ?_ ?_))
        all_goals (try (rw [(cut_at2 hr.le).1, (cut_at2 hr.le).2]; congr 2; (try simp only [newK, uptK, hearK, agrK, mx]); simp_all; done))
        all_goals (try (simp only [List.length_append, List.length_take, List.length_drop, List.length_cons, kn_sub, kn_sub1]; omega))
        all_goals (try (simp only [pubL, pubV, Gra.av, graK, newK, uptK, hearK, agrK, mx]; simp_all; done))
        all_goals (try (rw [(cut_at2 hr.le).1, (cut_at2 hr.le).2]; congr 2; apply kep_eq <;> (simp only [newK, uptK, hearK, agrK, mx]; grind)))
        all_goals (try (simp only [pubL, pubV]; apply gra_eq <;> (simp only [newK, uptK, hearK, agrK, mx]; grind)))
end Go.Proofs

namespace Go.Proofs
open Go Go.Eng
set_option maxRecDepth 100000
set_option maxHeartbeats 4000000
def wHeap2 (id : Int) (l : List Kep) (ca cb : Option Nat) : Heap := ⟨2, [(0, .cells (wav id l ca)), (1, .cells (wav id l cb))]⟩
def I18 (id : Int) (l : List Kep) (ca cb : Option Nat) (m : Nat) (fr : Fr) (H : Heap) : Prop := ∃ i : Nat, i ≤ l.length ∧ m = l.length - i ∧ fr = [(2, .ptr 0 0), (3, .ptr 1 0), (5, I i)] ∧ H = wHeap2 id l ca cb
theorem c18 (id : Int) (l : List Kep) (ca cb : Option Nat) (hl : l.length ≤ 1000) : CallA Try.prog 18 [.agg (wav id l ca), .agg (wav id l cb)] Heap.nil fun v H' => v = .bool true ∧ H' = Heap.nil := by
  refine callA_of ok18 (Nat.le_of_ble_eq_true rfl) ?_
  repeat' ((conv => whnf); first
      | refine Branch.ofT rfl ?_
      | refine Branch.ofF rfl ?_
      | refine Branch.ofF (by simp; done) ?_
      | refine Branch.dec (fun h => ?_) (fun h => ?_)
      | refine Branch.negdec (fun h => ?_) (fun h => ?_)
      | refine Branch.neg (fun h => ?_) (fun h => ?_)
      | refine Branch.mk (fun h => ?_) (fun h => ?_)
      | (refine Side.mk ?_ ?_; · first | omega | decide)
      | (refine SideD.mk ?_ ?_; · first | omega | decide)
      | refine ⟨_, Nat.lt_succ_self _, To.refl (.inl ⟨rfl, ?_⟩)⟩
      | (refine Side.mk ?_ ?_; · (simp; done))
      | fail
      )
  all_goals (conv => whnf)
  refine ⟨I18 id l ca cb, l.length, To.gc [(0, true), (1, true)] [2, 3, 5] rfl ⟨wav_noLoc id l ca, wav_noLoc id l cb, trivial⟩ ⟨0, by omega, by omega, rfl, rfl⟩, ?_⟩
  rintro m fr H ⟨i, hi, rfl, rfl, rfl⟩
  (conv => whnf)
  refine Branch.dec (fun h => ?_) (fun h => ?_)
  · have h' : i < l.length := by omega
    repeat' ((conv => whnf); first
        | refine Branch.ofT rfl ?_
        | refine Branch.ofF rfl ?_
        | refine SideD.at (by omega) (kcells_at h') ?_
        | refine Branch.ofF (by simp; done) ?_
        | refine Branch.dec (fun h => ?_) (fun h => ?_)
        | refine Branch.negdec (fun h => ?_) (fun h => ?_)
        | refine Branch.neg (fun h => ?_) (fun h => ?_)
        | refine Branch.mk (fun h => ?_) (fun h => ?_)
        | (refine Side.mk ?_ ?_; · first | omega | decide)
        | (refine SideD.mk ?_ ?_; · first | omega | decide)
        | refine ⟨_, Nat.lt_succ_self _, To.refl (.inl ⟨rfl, ?_⟩)⟩
        | (refine Side.mk ?_ ?_; · (simp; done))
        | fail
        )
    all_goals (conv => whnf)
    refine ⟨l.length - (i + 1), by omega, To.gc [(0, true), (1, true)] [2, 3, 5] rfl ⟨wav_noLoc id l ca, wav_noLoc id l cb, trivial⟩ ⟨i + 1, by omega, rfl, rfl, rfl⟩⟩
  · (conv => whnf)
    exact RetA.data rfl ⟨rfl, rfl⟩
def prevM (l : List Kep) (j : Nat) : Int := (l[j - 1]?.getD ⟨0, 0, 0, 0⟩).m
def okK (l : List Kep) (j : Nat) (k : Kep) : Bool := numB k.m && numB k.e && numB k.h && serB k.u && (decide (j = 0) || decide (prevM l j < k.m))
def okAt (l : List Kep) (j : Nat) : Bool := match l[j]? with
  | some k => okK l j k
  | none => true
def validB (id : Int) (l : List Kep) : Bool := decide (0 ≤ id) && decide (id < 3) && decide (l.length ≤ 64) && (List.range l.length).all (okAt l)
theorem okAt_get {l : List Kep} {j : Nat} (h : j < l.length) : okAt l j = okK l j l[j] := by simp [okAt, List.getElem?_eq_getElem h]
theorem valid_no {id : Int} {l : List Kep} {j : Nat} (h : j < l.length) (hk : okK l j l[j] = false) : validB id l = false := by
  have : (List.range l.length).all (okAt l) = false := by
    rw [List.all_eq_false]
    exact ⟨j, List.mem_range.2 h, by rw [okAt_get h, hk]; simp⟩
  simp [validB, this]
theorem valid_yes {id : Int} {l : List Kep} (h0 : 0 ≤ id) (h1 : id < 3) (h2 : l.length ≤ 64) (h : ∀ j (hj : j < l.length), okK l j l[j] = true) : validB id l = true := by
  have : (List.range l.length).all (okAt l) = true := by
    rw [List.all_eq_true]
    intro j hj
    have hj := List.mem_range.1 hj
    rw [okAt_get hj]; exact h j hj
  simp [validB, this, h0, h1, h2]
def I27 (id : Int) (l : List Kep) (cap : Option Nat) (m : Nat) (fr : Fr) (H : Heap) : Prop := ∃ i : Nat, i ≤ l.length ∧ m = l.length - i ∧ (∀ j (hj : j < l.length), j < i → okK l j l[j] = true) ∧ fr = [(1, .ptr 0 0), (20, .dslice (kcells l) l.length cap), (21, I l.length), (22, I i)] ∧ H = ⟨1, [(0, .cells (wav id l cap))]⟩
theorem prev_at {l : List Kep} {i : Nat} (h : i < l.length) (h0 : 0 < i) : ∃ h1 : i - 1 < l.length, l[i - 1].m = prevM l i := ⟨by omega, by simp [prevM, List.getElem?_eq_getElem (show i - 1 < l.length by omega)]⟩
theorem kcells_at1 {l : List Kep} {i : Nat} (h : i - 1 < l.length) (h0 : 0 < i) : List.drop (((i : Int) - 1).toNat * 4) (kcells l) = I l[i - 1].m :: I l[i - 1].e :: I l[i - 1].h :: I l[i - 1].u :: kcells (l.drop (i - 1 + 1)) := by
  rw [show ((i : Int) - 1) = ((i - 1 : Nat) : Int) by omega]; exact kcells_at h
theorem c27 (id : Int) (l : List Kep) (cap : Option Nat) (hb : l.length ≤ 1000000) : CallA Try.prog 27 [.agg (wav id l cap)] Heap.nil fun v H' => v = .bool (validB id l) ∧ H' = Heap.nil := by
  refine callA_of ok27 (Nat.le_of_ble_eq_true rfl) ?_
  repeat' ((conv => whnf); first
      | refine Branch.ofT rfl ?_
      | refine Branch.ofF rfl ?_
      | refine Branch.dec (fun h => ?_) (fun h => ?_)
      | refine Branch.negdec (fun h => ?_) (fun h => ?_)
      | refine Branch.neg (fun h => ?_) (fun h => ?_)
      | refine Branch.mk (fun h => ?_) (fun h => ?_)
      | (refine Side.mk ?_ ?_; · first | omega | decide)
      | (refine SideD.mk ?_ ?_; · first | omega | decide)
      | refine ⟨_, Nat.lt_succ_self _, To.refl (.inl ⟨rfl, ?_⟩)⟩
      | (refine Side.mk ?_ ?_; · (simp; done))
      | fail
      )
  all_goals (conv => whnf)
  · refine RetA.data rfl ⟨?_, rfl⟩
    simp [one, validB]; omega
  · refine RetA.data rfl ⟨?_, rfl⟩
    simp [one, validB]; omega
  · refine RetA.data rfl ⟨?_, rfl⟩
    simp [one, validB]; omega
  refine ⟨I27 id l cap, l.length, To.gc [(0, true)] [1, 20, 21, 22] rfl ⟨wav_noLoc id l cap, trivial⟩ ⟨0, by omega, by omega, by omega, rfl, rfl⟩, ?_⟩
  rintro m fr H ⟨i, hi, rfl, hall, rfl, rfl⟩
  (conv => whnf)
  refine Branch.dec (fun h => ?_) (fun h => ?_)
  · have h' : i < l.length := by omega
    have fin : ∀ b : Bool, okK l i l[i] = b → (b = true → ∀ j (hj : j < l.length), j < i + 1 → okK l j l[j] = true) := by
      intro b hb hbt j hj hji
      rcases Nat.lt_or_eq_of_le (Nat.le_of_lt_succ hji) with e | e
      · exact hall j hj e
      · subst e; rw [hb, hbt]
    by_cases h0 : i = 0
    · subst h0
      repeat' ((conv => whnf); first
          | refine Branch.ofT rfl ?_
          | refine Branch.ofF rfl ?_
          | refine SideD.at (by omega) (kcells_at h') ?_
          | refine Branch.ofF (decide_eq_false (by omega)) ?_
          | refine Branch.dec (fun h => ?_) (fun h => ?_)
          | refine Branch.negdec (fun h => ?_) (fun h => ?_)
          | refine Branch.neg (fun h => ?_) (fun h => ?_)
          | refine Branch.mk (fun h => ?_) (fun h => ?_)
          | (refine Side.mk ?_ ?_; · first | omega | decide)
          | (refine SideD.mk ?_ ?_; · first | omega | decide)
          | refine ⟨_, Nat.lt_succ_self _, To.refl (.inl ⟨rfl, ?_⟩)⟩
          | refine QCallA.of (c30_3 _ _ _ _) rfl rfl ?_
          | refine QCallA.of (c31_1 _ _) rfl rfl ?_
          | (refine Side.mk ?_ ?_; · (simp; done))
          | fail
          )
      all_goals (conv => whnf)
      · refine RetA.data rfl ⟨?_, rfl⟩
        simp only [one]; congr 1; symm; apply valid_no h'; simp_all [okK]
      · refine RetA.data rfl ⟨?_, rfl⟩
        simp only [one]; congr 1; symm; apply valid_no h'; simp_all [okK]
      · refine ⟨l.length - (0 + 1), by omega, To.gc [(0, true)] [1, 20, 21, 22] rfl ⟨wav_noLoc id l cap, trivial⟩ ⟨0 + 1, by omega, rfl, fin true (by simp_all [okK]) rfl, rfl, rfl⟩⟩
    · obtain ⟨hp, hpm⟩ := prev_at h' (by omega)
      repeat' ((conv => whnf); first
          | refine Branch.ofT rfl ?_
          | refine Branch.ofF rfl ?_
          | refine SideD.at (by omega) (kcells_at h') ?_
          | refine SideD.at (by omega) (kcells_at1 hp (by omega)) ?_
          | refine Branch.ofT (decide_eq_true (by omega)) ?_
          | refine Branch.dec (fun h => ?_) (fun h => ?_)
          | refine Branch.negdec (fun h => ?_) (fun h => ?_)
          | refine Branch.neg (fun h => ?_) (fun h => ?_)
          | refine Branch.mk (fun h => ?_) (fun h => ?_)
          | (refine Side.mk ?_ ?_; · first | omega | decide)
          | (refine SideD.mk ?_ ?_; · first | omega | decide)
          | refine ⟨_, Nat.lt_succ_self _, To.refl (.inl ⟨rfl, ?_⟩)⟩
          | refine QCallA.of (c30_3 _ _ _ _) rfl rfl ?_
          | refine QCallA.of (c31_1 _ _) rfl rfl ?_
          | (refine Side.mk ?_ ?_; · (simp; done))
          | fail
          )
      all_goals (conv => whnf)
      · refine RetA.data rfl ⟨?_, rfl⟩
        simp only [one]; congr 1; symm; apply valid_no h'; simp_all [okK]
      · refine RetA.data rfl ⟨?_, rfl⟩
        simp only [one]; congr 1; symm; apply valid_no h'; simp_all [okK]
      · refine RetA.data rfl ⟨?_, rfl⟩
        simp only [one]; congr 1; symm; apply valid_no h'; simp_all [okK]
      · refine ⟨l.length - (i + 1), by omega, To.gc [(0, true)] [1, 20, 21, 22] rfl ⟨wav_noLoc id l cap, trivial⟩ ⟨i + 1, by omega, rfl, fin true (by simp_all [okK]) rfl, rfl, rfl⟩⟩
  · (conv => whnf)
    refine RetA.data rfl ⟨?_, rfl⟩
    simp only [one]; congr 1; symm
    exact valid_yes (by omega) (by omega) (by omega) fun j hj => hall j hj (by omega)
end Go.Proofs

namespace Go.Proofs
open Go Go.Eng
set_option maxRecDepth 100000
set_option maxHeartbeats 4000000
def plc (l : List Kep) (m : Int) : Int := match l[rank l m]? with
  | some k => if k.m = m then (rank l m : Int) else -1
  | none => -1
theorem plc_at {l : List Kep} {m : Int} (hl : Kept1 l) {i : Nat} (hi : i < l.length) (h : l[i].m = m) : plc l m = i := by
  have hf := found_rank l m hl
  have hr : rank l m = i := by
    rcases Nat.lt_trichotomy (rank l m) i with e | e | e
    · have h1 := hf.hi (rank l m) (Nat.le_refl _) (by omega)
      have h2 := hl.asc (rank l m) i (by omega) hi e
      omega
    · exact e
    · have := hf.lo i e hi; omega
  unfold plc
  rw [hr, List.getElem?_eq_getElem hi]
  simp [h]
theorem plc_none {l : List Kep} {m : Int} (h : ∀ j (hj : j < l.length), l[j].m ≠ m) : plc l m = -1 := by
  unfold plc
  split
  · rename_i k hk
    obtain ⟨hr, rfl⟩ := List.getElem?_eq_some_iff.1 hk
    rw [if_neg (h _ hr)]
  · rfl
def I39 (l : List Kep) (cap : Option Nat) (m : Int) (n : Nat) (fr : Fr) (H : Heap) : Prop := ∃ i : Nat, i ≤ l.length ∧ n = l.length - i ∧ (∀ j (hj : j < l.length), j < i → l[j].m ≠ m) ∧ fr = [(0, .dslice (kcells l) l.length cap), (1, I m), (5, I i)] ∧ H = Heap.nil
theorem c39 (l : List Kep) (cap : Option Nat) (m : Int) (hl : Kept1 l) : CallA Try.prog 39 [.dslice (kcells l) l.length cap, I m] Heap.nil fun v H' => v = I (plc l m) ∧ H' = Heap.nil := by
  refine callA_of ok39 (Nat.le_of_ble_eq_true rfl) ?_
  have e2 := hl.len
  repeat' ((conv => whnf); first
      | refine Branch.ofT rfl ?_
      | refine Branch.ofF rfl ?_
      | refine Branch.dec (fun h => ?_) (fun h => ?_)
      | refine Branch.negdec (fun h => ?_) (fun h => ?_)
      | refine Branch.neg (fun h => ?_) (fun h => ?_)
      | refine Branch.mk (fun h => ?_) (fun h => ?_)
      | (refine Side.mk ?_ ?_; · first | omega | decide)
      | (refine SideD.mk ?_ ?_; · first | omega | decide)
      | refine ⟨_, Nat.lt_succ_self _, To.refl (.inl ⟨rfl, ?_⟩)⟩
      | (refine Side.mk ?_ ?_; · (simp; done))
      | fail
      )
  all_goals (conv => whnf)
  refine ⟨I39 l cap m, l.length, To.gc [] [0, 1, 5] rfl trivial ⟨0, by omega, by omega, by omega, rfl, rfl⟩, ?_⟩
  rintro n fr H ⟨i, hi, rfl, hall, rfl, rfl⟩
  (conv => whnf)
  refine Branch.dec (fun h => ?_) (fun h => ?_)
  · have h' : i < l.length := by omega
    repeat' ((conv => whnf); first
        | refine Branch.ofT rfl ?_
        | refine Branch.ofF rfl ?_
        | refine SideD.at (by omega) (kcells_at h') ?_
        | refine Branch.dec (fun h => ?_) (fun h => ?_)
        | refine Branch.negdec (fun h => ?_) (fun h => ?_)
        | refine Branch.neg (fun h => ?_) (fun h => ?_)
        | refine Branch.mk (fun h => ?_) (fun h => ?_)
        | (refine Side.mk ?_ ?_; · first | omega | decide)
        | (refine SideD.mk ?_ ?_; · first | omega | decide)
        | refine ⟨_, Nat.lt_succ_self _, To.refl (.inl ⟨rfl, ?_⟩)⟩
        | (refine Side.mk ?_ ?_; · (simp; done))
        | fail
        )
    all_goals (conv => whnf)
    · refine RetA.data rfl ⟨?_, rfl⟩
      simp only [one]; congr 1; symm; exact plc_at hl h' (by assumption)
    · refine ⟨l.length - (i + 1), by omega, To.gc [] [0, 1, 5] rfl trivial ⟨i + 1, by omega, rfl, fun j hj hji => ?_, rfl, rfl⟩⟩
      rcases Nat.lt_or_eq_of_le (Nat.le_of_lt_succ hji) with e | e
      · exact hall j hj e
      · subst e; assumption
  · (conv => whnf)
    refine RetA.data rfl ⟨?_, rfl⟩
    simp only [one]; congr 1; symm; exact plc_none fun j hj => hall j hj (by omega)
def outL (l : List Kep) (k : Kep) (r i : Nat) : List Kep := if r < i then l.take r ++ k :: (l.drop r).take (i - r) else l.take i
theorem outL_len {l : List Kep} {k : Kep} {r i : Nat} (hr : r ≤ l.length) (hi : i ≤ l.length) : (outL l k r i).length = if r < i then i + 1 else i := by
  unfold outL; split <;> simp <;> omega
theorem outL_plain {l : List Kep} {k : Kep} {r i : Nat} (hi : i < l.length) (h : i < r) : outL l k r (i + 1) = outL l k r i ++ [l[i]] := by
  unfold outL
  rw [if_neg (by omega), if_neg (by omega), List.take_succ_eq_append_getElem hi]
theorem outL_here {l : List Kep} {k : Kep} {i : Nat} (hi : i < l.length) : outL l k i (i + 1) = outL l k i i ++ [k] ++ [l[i]] := by
  unfold outL
  rw [if_pos (by omega), if_neg (by omega), show i + 1 - i = 1 by omega]
  have : List.take 1 (List.drop i l) = [l[i]] := by rw [List.drop_eq_getElem_cons hi]; rfl
  rw [this]; simp
theorem outL_behind {l : List Kep} {k : Kep} {r i : Nat} (hi : i < l.length) (h : r < i) : outL l k r (i + 1) = outL l k r i ++ [l[i]] := by
  unfold outL
  rw [if_pos (by omega), if_pos h, show i + 1 - r = (i - r) + 1 by omega, List.take_succ_eq_append_getElem (by simp; omega)]
  simp [show r + (i - r) = i by omega]
theorem outL_end {l : List Kep} {k : Kep} {r : Nat} (hr : r ≤ l.length) : (if r < l.length then outL l k r l.length else outL l k r l.length ++ [k]) = l.take r ++ k :: l.drop r := by
  unfold outL
  split
  · rw [take_drop_all]
  · have : r = l.length := by omega
    subst this; simp
def kav (k : Kep) : List AV := [I k.m, I k.e, I k.h, I k.u]
def I40 (l : List Kep) (cap : Option Nat) (k : Kep) (r : Nat) (n : Nat) (fr : Fr) (H : Heap) : Prop := ∃ i : Nat, i ≤ l.length ∧ n = l.length - i ∧
  ((i = 0 ∧ fr = [(0, .dslice (kcells l) l.length cap), (3, .ptr 0 0), (5, .nils), (6, .bool false), (7, I 0)] ∧ H = ⟨1, [(0, .cells (kav k))]⟩) ∨
   (0 < i ∧ ∃ b : Bool, (b = true ↔ r < i) ∧ fr = [(0, .dslice (kcells l) l.length cap), (3, .ptr 0 0), (5, .slice 1 0 (outL l k r i).length none 4), (6, .bool b), (7, I i)] ∧ H = ⟨2, [(0, .cells (kav k)), (1, .cells (kcells (outL l k r i)))]⟩))
theorem kav_noLoc (k : Kep) : ∀ c ∈ kav k, noLoc c = true := by simp [kav, noLoc]
theorem c40 (l : List Kep) (cap : Option Nat) (k : Kep) (hl : Kept1 l) (hu : ∀ j (hj : j < l.length), l[j].m ≠ k.m) : CallA Try.prog 40 [.dslice (kcells l) l.length cap, .agg (kav k)] Heap.nil fun v H' => v = .dslice (kcells (l.take (rank l k.m) ++ k :: l.drop (rank l k.m))) (l.length + 1) none ∧ H' = Heap.nil := by
  refine callA_of ok40 (Nat.le_of_ble_eq_true rfl) ?_
  have e2 := hl.len
  have hf := found_rank l k.m hl
  generalize hrk : rank l k.m = r at hf
  have e1 := hf.le
  have cmp1 : ∀ i (h : i < l.length), r ≤ i → k.m < l[i].m := fun i h hi => by have := hf.hi i hi h; have := hu i h; omega
  have cmp2 : ∀ i (h : i < l.length), i < r → ¬ k.m < l[i].m := fun i h hi => by have := hf.lo i hi h; omega
  repeat' ((conv => whnf); first
      | refine Branch.ofT rfl ?_
      | refine Branch.ofF rfl ?_
      | refine Branch.dec (fun h => ?_) (fun h => ?_)
      | refine Branch.negdec (fun h => ?_) (fun h => ?_)
      | refine Branch.neg (fun h => ?_) (fun h => ?_)
      | refine Branch.mk (fun h => ?_) (fun h => ?_)
      | (refine Side.mk ?_ ?_; · first | omega | decide)
      | (refine SideD.mk ?_ ?_; · first | omega | decide)
      | refine ⟨_, Nat.lt_succ_self _, To.refl (.inl ⟨rfl, ?_⟩)⟩
      | (refine Side.mk ?_ ?_; · (simp; done))
      | fail
      )
  all_goals (conv => whnf)
  refine ⟨I40 l cap k r, l.length, To.gc [(0, true)] [0, 3, 5, 6, 7] rfl ⟨kav_noLoc k, trivial⟩ ⟨0, by omega, by omega, .inl ⟨rfl, rfl, rfl⟩⟩, ?_⟩
  have lst : ∀ (a b : List Kep), kcells a ++ kcells b = kcells (a ++ b) := fun a b => (kcells_append a b).symm
  rintro n fr H ⟨i, hi, rfl, ⟨rfl, rfl, rfl⟩ | ⟨hpos, b, hb, rfl, rfl⟩⟩
  · (conv => whnf)
    refine Branch.dec (fun h => ?_) (fun h => ?_)
    · have h' : 0 < l.length := by omega
      by_cases h0 : r ≤ 0
      · repeat' ((conv => whnf); first
            | refine Branch.ofT rfl ?_
            | refine Branch.ofF rfl ?_
            | refine SideD.at (by omega) (kcells_at h') ?_
            | refine Branch.ofT (decide_eq_true (cmp1 _ h' (by omega))) ?_
            | refine Branch.dec (fun h => ?_) (fun h => ?_)
            | refine Branch.negdec (fun h => ?_) (fun h => ?_)
            | refine Branch.neg (fun h => ?_) (fun h => ?_)
            | refine Branch.mk (fun h => ?_) (fun h => ?_)
            | (refine Side.mk ?_ ?_; · first | omega | decide)
            | (refine SideD.mk ?_ ?_; · first | omega | decide)
            | refine ⟨_, Nat.lt_succ_self _, To.refl (.inl ⟨rfl, ?_⟩)⟩
            | (refine Side.mk ?_ ?_; · ((repeat' apply And.intro) <;> first | omega | rfl | exact Nat.zero_le _ | (simp only [kcells_length]; done) | (simp only [fits]; omega) | (simp only [fits, List.length_append, List.length_take, List.length_drop, List.length_cons, List.length_nil, kcells_length, outL_len e1 hi]; split <;> omega) | (simp only [List.length_append, List.length_take, List.length_drop, List.length_cons, List.length_nil, kcells_length, rep]; omega) | (repeat' first | exact kcells_scal _ | exact scal_nil | apply scal_take | apply scal_drop | apply scal_int)))
            | (refine Side.mk ?_ ?_; · (simp; done))
            | fail
            )
        all_goals (conv => whnf)
        have hC : kcells (outL l k r (0 + 1)) = kcells [k] ++ kcells [l[0]] := by have : r = 0 := (by omega); subst this; rw [outL_here h', lst]; simp [outL]
        have hN : (outL l k r (0 + 1)).length = 1 + 1 := by rw [outL_len e1 (by omega), if_pos (by omega)]
        refine ⟨l.length - (0 + 1), by omega, To.gc [(0, true), (14, true)] [0, 3, 5, 6, 7] rfl ⟨kav_noLoc k, ?_, trivial⟩ ⟨0 + 1, by omega, rfl, .inr ⟨by omega, true, by simp <;> omega, ?_, ?_⟩⟩⟩
        · have := kcells_noLoc (outL l k r (0 + 1)); rw [hC] at this; exact this
        · rw [hN]; rfl
        · rw [hC]; rfl
      · repeat' ((conv => whnf); first
            | refine Branch.ofT rfl ?_
            | refine Branch.ofF rfl ?_
            | refine SideD.at (by omega) (kcells_at h') ?_
            | refine Branch.ofF (decide_eq_false (cmp2 _ h' (by omega))) ?_
            | refine Branch.dec (fun h => ?_) (fun h => ?_)
            | refine Branch.negdec (fun h => ?_) (fun h => ?_)
            | refine Branch.neg (fun h => ?_) (fun h => ?_)
            | refine Branch.mk (fun h => ?_) (fun h => ?_)
            | (refine Side.mk ?_ ?_; · first | omega | decide)
            | (refine SideD.mk ?_ ?_; · first | omega | decide)
            | refine ⟨_, Nat.lt_succ_self _, To.refl (.inl ⟨rfl, ?_⟩)⟩
            | (refine Side.mk ?_ ?_; · ((repeat' apply And.intro) <;> first | omega | rfl | exact Nat.zero_le _ | (simp only [kcells_length]; done) | (simp only [fits]; omega) | (simp only [fits, List.length_append, List.length_take, List.length_drop, List.length_cons, List.length_nil, kcells_length, outL_len e1 hi]; split <;> omega) | (simp only [List.length_append, List.length_take, List.length_drop, List.length_cons, List.length_nil, kcells_length, rep]; omega) | (repeat' first | exact kcells_scal _ | exact scal_nil | apply scal_take | apply scal_drop | apply scal_int)))
            | (refine Side.mk ?_ ?_; · (simp; done))
            | fail
            )
        all_goals (conv => whnf)
        have hC : kcells (outL l k r (0 + 1)) = kcells [l[0]] := by rw [outL_plain h' (by omega)]; simp [outL]
        have hN : (outL l k r (0 + 1)).length = 1 := by rw [outL_len e1 (by omega), if_neg (by omega)]
        refine ⟨l.length - (0 + 1), by omega, To.gc [(0, true), (13, true)] [0, 3, 5, 6, 7] rfl ⟨kav_noLoc k, ?_, trivial⟩ ⟨0 + 1, by omega, rfl, .inr ⟨by omega, false, by simp <;> omega, ?_, ?_⟩⟩⟩
        · have := kcells_noLoc (outL l k r (0 + 1)); rw [hC] at this; exact this
        · rw [hN]; rfl
        · rw [hC]; rfl
    · have h' : l.length = 0 := by omega
      repeat' ((conv => whnf); first
          | refine Branch.ofT rfl ?_
          | refine Branch.ofF rfl ?_
          | refine Branch.dec (fun h => ?_) (fun h => ?_)
          | refine Branch.negdec (fun h => ?_) (fun h => ?_)
          | refine Branch.neg (fun h => ?_) (fun h => ?_)
          | refine Branch.mk (fun h => ?_) (fun h => ?_)
          | (refine Side.mk ?_ ?_; · first | omega | decide)
          | (refine SideD.mk ?_ ?_; · first | omega | decide)
          | refine ⟨_, Nat.lt_succ_self _, To.refl (.inl ⟨rfl, ?_⟩)⟩
          | (refine Side.mk ?_ ?_; · ((repeat' apply And.intro) <;> first | omega | rfl | exact Nat.zero_le _ | (simp only [kcells_length]; done) | (simp only [fits]; omega) | (simp only [fits, List.length_append, List.length_take, List.length_drop, List.length_cons, List.length_nil, kcells_length, outL_len e1 hi]; split <;> omega) | (simp only [List.length_append, List.length_take, List.length_drop, List.length_cons, List.length_nil, kcells_length, rep]; omega) | (repeat' first | exact kcells_scal _ | exact scal_nil | apply scal_take | apply scal_drop | apply scal_int)))
          | (refine Side.mk ?_ ?_; · (simp; done))
          | fail
          )
      all_goals (conv => whnf)
      have hC : l.take r ++ k :: l.drop r = [k] := by
        have : l = [] := List.length_eq_zero_iff.1 h'
        subst this; simp
      refine RetA.pub 1 rfl (kcells_noLoc [k]) ?_
      refine RetA.data rfl ⟨?_, rfl⟩
      rw [hC, h']; rfl
  · (conv => whnf)
    refine Branch.dec (fun h => ?_) (fun h => ?_)
    · have h' : i < l.length := by omega
      cases b with
      | true =>
        have h0 := hb.1 rfl
        repeat' ((conv => whnf); first
            | refine Branch.ofT rfl ?_
            | refine Branch.ofF rfl ?_
            | refine SideD.at (by omega) (kcells_at h') ?_
            | refine Branch.dec (fun h => ?_) (fun h => ?_)
            | refine Branch.negdec (fun h => ?_) (fun h => ?_)
            | refine Branch.neg (fun h => ?_) (fun h => ?_)
            | refine Branch.mk (fun h => ?_) (fun h => ?_)
            | (refine Side.mk ?_ ?_; · first | omega | decide)
            | (refine SideD.mk ?_ ?_; · first | omega | decide)
            | refine ⟨_, Nat.lt_succ_self _, To.refl (.inl ⟨rfl, ?_⟩)⟩
            | (refine Side.mk ?_ ?_; · ((repeat' apply And.intro) <;> first | omega | rfl | exact Nat.zero_le _ | (simp only [kcells_length]; done) | (simp only [fits]; omega) | (simp only [fits, List.length_append, List.length_take, List.length_drop, List.length_cons, List.length_nil, kcells_length, outL_len e1 hi]; split <;> omega) | (simp only [List.length_append, List.length_take, List.length_drop, List.length_cons, List.length_nil, kcells_length, rep]; omega) | (repeat' first | exact kcells_scal _ | exact scal_nil | apply scal_take | apply scal_drop | apply scal_int)))
            | (refine Side.mk ?_ ?_; · (simp; done))
            | fail
            )
        all_goals (conv => whnf)
        have hC : kcells (outL l k r (i + 1)) = kcells (outL l k r i) ++ kcells [l[i]] := by rw [outL_behind h' h0, lst]
        have hN : (outL l k r (i + 1)).length = (outL l k r i).length + 1 := by rw [outL_behind h' h0]; simp
        refine ⟨l.length - (i + 1), by omega, To.gc [(0, true), (14, true)] [0, 3, 5, 6, 7] rfl ⟨kav_noLoc k, ?_, trivial⟩ ⟨i + 1, by omega, rfl, .inr ⟨by omega, true, by simp <;> omega, ?_, ?_⟩⟩⟩
        · have := kcells_noLoc (outL l k r (i + 1)); rw [hC] at this; exact this
        · rw [hN]; rfl
        · rw [hC]; rfl
      | false =>
        have h0 : ¬ r < i := fun h => by have := hb.2 h; cases this
        by_cases h1 : r ≤ i
        · repeat' ((conv => whnf); first
              | refine Branch.ofT rfl ?_
              | refine Branch.ofF rfl ?_
              | refine SideD.at (by omega) (kcells_at h') ?_
              | refine Branch.ofT (decide_eq_true (cmp1 _ h' (by omega))) ?_
              | refine Branch.dec (fun h => ?_) (fun h => ?_)
              | refine Branch.negdec (fun h => ?_) (fun h => ?_)
              | refine Branch.neg (fun h => ?_) (fun h => ?_)
              | refine Branch.mk (fun h => ?_) (fun h => ?_)
              | (refine Side.mk ?_ ?_; · first | omega | decide)
              | (refine SideD.mk ?_ ?_; · first | omega | decide)
              | refine ⟨_, Nat.lt_succ_self _, To.refl (.inl ⟨rfl, ?_⟩)⟩
              | (refine Side.mk ?_ ?_; · ((repeat' apply And.intro) <;> first | omega | rfl | exact Nat.zero_le _ | (simp only [kcells_length]; done) | (simp only [fits]; omega) | (simp only [fits, List.length_append, List.length_take, List.length_drop, List.length_cons, List.length_nil, kcells_length, outL_len e1 hi]; split <;> omega) | (simp only [List.length_append, List.length_take, List.length_drop, List.length_cons, List.length_nil, kcells_length, rep]; omega) | (repeat' first | exact kcells_scal _ | exact scal_nil | apply scal_take | apply scal_drop | apply scal_int)))
              | (refine Side.mk ?_ ?_; · (simp; done))
              | fail
              )
          all_goals (conv => whnf)
          have hC : kcells (outL l k r (i + 1)) = kcells (outL l k r i) ++ kcells [k] ++ kcells [l[i]] := by have : r = i := (by omega); subst this; rw [outL_here h', lst, lst]
          have hN : (outL l k r (i + 1)).length = (outL l k r i).length + 1 + 1 := by have : r = i := (by omega); subst this; rw [outL_here h']; simp
          refine ⟨l.length - (i + 1), by omega, To.gc [(0, true), (15, true)] [0, 3, 5, 6, 7] rfl ⟨kav_noLoc k, ?_, trivial⟩ ⟨i + 1, by omega, rfl, .inr ⟨by omega, true, by simp <;> omega, ?_, ?_⟩⟩⟩
          · have := kcells_noLoc (outL l k r (i + 1)); rw [hC] at this; exact this
          · rw [hN]; rfl
          · rw [hC]; rfl
        · repeat' ((conv => whnf); first
              | refine Branch.ofT rfl ?_
              | refine Branch.ofF rfl ?_
              | refine SideD.at (by omega) (kcells_at h') ?_
              | refine Branch.ofF (decide_eq_false (cmp2 _ h' (by omega))) ?_
              | refine Branch.dec (fun h => ?_) (fun h => ?_)
              | refine Branch.negdec (fun h => ?_) (fun h => ?_)
              | refine Branch.neg (fun h => ?_) (fun h => ?_)
              | refine Branch.mk (fun h => ?_) (fun h => ?_)
              | (refine Side.mk ?_ ?_; · first | omega | decide)
              | (refine SideD.mk ?_ ?_; · first | omega | decide)
              | refine ⟨_, Nat.lt_succ_self _, To.refl (.inl ⟨rfl, ?_⟩)⟩
              | (refine Side.mk ?_ ?_; · ((repeat' apply And.intro) <;> first | omega | rfl | exact Nat.zero_le _ | (simp only [kcells_length]; done) | (simp only [fits]; omega) | (simp only [fits, List.length_append, List.length_take, List.length_drop, List.length_cons, List.length_nil, kcells_length, outL_len e1 hi]; split <;> omega) | (simp only [List.length_append, List.length_take, List.length_drop, List.length_cons, List.length_nil, kcells_length, rep]; omega) | (repeat' first | exact kcells_scal _ | exact scal_nil | apply scal_take | apply scal_drop | apply scal_int)))
              | (refine Side.mk ?_ ?_; · (simp; done))
              | fail
              )
          all_goals (conv => whnf)
          have hC : kcells (outL l k r (i + 1)) = kcells (outL l k r i) ++ kcells [l[i]] := by rw [outL_plain h' (by omega), lst]
          have hN : (outL l k r (i + 1)).length = (outL l k r i).length + 1 := by rw [outL_plain h' (by omega)]; simp
          refine ⟨l.length - (i + 1), by omega, To.gc [(0, true), (14, true)] [0, 3, 5, 6, 7] rfl ⟨kav_noLoc k, ?_, trivial⟩ ⟨i + 1, by omega, rfl, .inr ⟨by omega, false, by simp <;> omega, ?_, ?_⟩⟩⟩
          · have := kcells_noLoc (outL l k r (i + 1)); rw [hC] at this; exact this
          · rw [hN]; rfl
          · rw [hC]; rfl
    · have h' : i = l.length := by omega
      cases b with
      | true =>
        repeat' ((conv => whnf); first
            | refine Branch.ofT rfl ?_
            | refine Branch.ofF rfl ?_
            | refine Branch.dec (fun h => ?_) (fun h => ?_)
            | refine Branch.negdec (fun h => ?_) (fun h => ?_)
            | refine Branch.neg (fun h => ?_) (fun h => ?_)
            | refine Branch.mk (fun h => ?_) (fun h => ?_)
            | (refine Side.mk ?_ ?_; · first | omega | decide)
            | (refine SideD.mk ?_ ?_; · first | omega | decide)
            | refine ⟨_, Nat.lt_succ_self _, To.refl (.inl ⟨rfl, ?_⟩)⟩
            | (refine Side.mk ?_ ?_; · ((repeat' apply And.intro) <;> first | omega | rfl | exact Nat.zero_le _ | (simp only [kcells_length]; done) | (simp only [fits]; omega) | (simp only [fits, List.length_append, List.length_take, List.length_drop, List.length_cons, List.length_nil, kcells_length, outL_len e1 hi]; split <;> omega) | (simp only [List.length_append, List.length_take, List.length_drop, List.length_cons, List.length_nil, kcells_length, rep]; omega) | (repeat' first | exact kcells_scal _ | exact scal_nil | apply scal_take | apply scal_drop | apply scal_int)))
            | (refine Side.mk ?_ ?_; · (simp; done))
            | fail
            )
        all_goals (conv => whnf)
        have h0 := hb.1 rfl
        have hX : outL l k r i = l.take r ++ k :: l.drop r := by rw [← outL_end e1, if_pos (by omega), h']
        refine RetA.pub 1 rfl (kcells_noLoc _) ?_
        refine RetA.data rfl ⟨?_, rfl⟩
        have hlen : (l.take r ++ k :: l.drop r).length = l.length + 1 := by simp; omega
        show AV.dslice (List.take ((outL l k r i).length * 4) (List.drop 0 (kcells (outL l k r i)))) (outL l k r i).length none = _
        rw [List.drop_zero, kcells_all, hX, hlen]
      | false =>
        repeat' ((conv => whnf); first
            | refine Branch.ofT rfl ?_
            | refine Branch.ofF rfl ?_
            | refine Branch.dec (fun h => ?_) (fun h => ?_)
            | refine Branch.negdec (fun h => ?_) (fun h => ?_)
            | refine Branch.neg (fun h => ?_) (fun h => ?_)
            | refine Branch.mk (fun h => ?_) (fun h => ?_)
            | (refine Side.mk ?_ ?_; · first | omega | decide)
            | (refine SideD.mk ?_ ?_; · first | omega | decide)
            | refine ⟨_, Nat.lt_succ_self _, To.refl (.inl ⟨rfl, ?_⟩)⟩
            | (refine Side.mk ?_ ?_; · ((repeat' apply And.intro) <;> first | omega | rfl | exact Nat.zero_le _ | (simp only [kcells_length]; done) | (simp only [fits]; omega) | (simp only [fits, List.length_append, List.length_take, List.length_drop, List.length_cons, List.length_nil, kcells_length, outL_len e1 hi]; split <;> omega) | (simp only [List.length_append, List.length_take, List.length_drop, List.length_cons, List.length_nil, kcells_length, rep]; omega) | (repeat' first | exact kcells_scal _ | exact scal_nil | apply scal_take | apply scal_drop | apply scal_int)))
            | (refine Side.mk ?_ ?_; · (simp; done))
            | fail
            )
        all_goals (conv => whnf)
        have h0 : ¬ r < i := fun h => by have := hb.2 h; cases this
        have hX : outL l k r i ++ [k] = l.take r ++ k :: l.drop r := by rw [← outL_end e1, if_neg (by omega), h']
        have hC : kcells (l.take r ++ k :: l.drop r) = kcells (outL l k r i) ++ kcells [k] := by rw [← hX, lst]
        have hlen : (outL l k r i).length + 1 = l.length + 1 := by
          have := congrArg List.length hX; simp at this; omega
        refine RetA.pub 2 rfl (by have := kcells_noLoc (l.take r ++ k :: l.drop r); rw [hC] at this; exact this) ?_
        refine RetA.data rfl ⟨?_, rfl⟩
        show AV.dslice (List.take (((outL l k r i).length + 1) * 4) (List.drop 0 (kcells (outL l k r i) ++ kcells [k]))) ((outL l k r i).length + 1) none = _
        rw [List.drop_zero, ← hC, hlen, List.take_of_length_le (by rw [kcells_length]; simp; omega)]
end Go.Proofs

namespace Go.Proofs
open Go Go.Eng
set_option maxRecDepth 100000
set_option maxHeartbeats 4000000
theorem ok_cases (p : Ple) (h : p.ok = true) : (p.k = 1 ∧ p.u = 0 ∨ p.k = 2) ∧ 1 ≤ p.e ∧ 0 ≤ p.u := by
  unfold Ple.ok at h
  have h1 : numB p.e = true := by simp at h; exact h.1.1.2
  have h2 : serB p.u = true := by simp at h; exact h.1.2
  unfold numB at h1; unfold serB at h2
  simp at h h1 h2
  omega
theorem plc_cases {l : List Kep} {m : Int} (hl : Kept1 l) : (∃ h : rank l m < l.length, l[rank l m].m = m ∧ plc l m = rank l m) ∨ ((∀ j (hj : j < l.length), l[j].m ≠ m) ∧ plc l m = -1) := by
  by_cases h : ∃ j, ∃ hj : j < l.length, l[j].m = m
  · obtain ⟨j, hj, hm⟩ := h
    have hp := plc_at hl hj hm
    have hf := found_rank l m hl
    have hr : rank l m = j := by
      have : (rank l m : Int) = j := by
        unfold plc at hp
        split at hp
        · rename_i k hk
          split at hp
          · exact hp
          · omega
        · omega
      omega
    refine .inl ⟨by omega, ?_, by rw [hp, hr]⟩
    simp only [hr]; exact hm
  · have : ∀ j (hj : j < l.length), l[j].m ≠ m := fun j hj e => h ⟨j, hj, e⟩
    exact .inr ⟨this, plc_none this⟩
theorem takeK_at4 {cs : List AV} {a b c d : AV} {r : List AV} {K : List AV → Prop} (e : cs = a :: b :: c :: d :: r) (h : fv a fun a => fv b fun b => fv c fun c => fv d fun d => K [a, b, c, d]) : takeK 4 cs K := by subst e; exact h
def heardC (id : Int) (x : Heard) : AV := .agg (wav id x.l x.cap ++ x.g.av ++ [I x.e])
theorem kat {l : List Kep} {r : Nat} (z : List AV) (h : r < l.length) : List.drop (0 + (r : Int).toNat * 4) (rep z 0 ++ List.take (l.length * 4) (kcells l)) = I l[r].m :: I l[r].e :: I l[r].h :: I l[r].u :: kcells (l.drop (r + 1)) := by
  rw [Nat.zero_add, kcells_all]; exact kcells_at h
theorem heard_eq {id n : Int} {L L' : List Kep} {len : Nat} {g : List AV} {g' : Gra} (hL : L = L') (hn : len = L'.length) (hg : g = g'.av) : AV.agg ([I id, .dslice (((kcells L).drop 0).take (len * 4)) len none] ++ g ++ [I n]) = heardC id ⟨L', none, g', n⟩ := by
  subst hL; subst hn; subst hg
  rw [List.drop_zero, kcells_all]; rfl
theorem set_mid {l : List Kep} {r : Nat} {x : Kep} (h : r < l.length) : (l.take r ++ x :: l.drop (r + 1)).length = l.length := by simp; omega
theorem c28 (id : Int) (l : List Kep) (cap : Option Nat) (p : Ple) (hl : Kept1 l) (hv : ∀ j (hj : j < l.length), 0 ≤ l[j].u) : CallA Try.prog 28 [.agg (wav id l cap), .agg p.av] Heap.nil fun v H' => v = heardC id (hearW id l cap p (rank l p.m)) ∧ H' = Heap.nil := by
  refine callA_of ok28b (Nat.le_of_ble_eq_true rfl) ?_
  have e2 := hl.len
  have h39 := c39 l cap p.m hl
  cases hok : p.ok with
  | false =>
    have h38 := c38 p
    rw [hok] at h38
    repeat' ((conv => whnf); first
        | refine Branch.ofT rfl ?_
        | refine Branch.ofF rfl ?_
        | refine Branch.dec (fun h => ?_) (fun h => ?_)
        | refine Branch.negdec (fun h => ?_) (fun h => ?_)
        | refine Branch.neg (fun h => ?_) (fun h => ?_)
        | refine Branch.mk (fun h => ?_) (fun h => ?_)
        | (refine Side.mk ?_ ?_; · first | omega | decide)
        | (refine SideD.mk ?_ ?_; · first | omega | decide)
        | refine ⟨_, Nat.lt_succ_self _, To.refl (.inl ⟨rfl, ?_⟩)⟩
        | refine CallA.pure h38 rfl rfl ?_
        | (refine Side.mk ?_ ?_; · (simp; done))
        | fail
        )
    all_goals (conv => whnf)
    refine RetA.data rfl ⟨?_, rfl⟩
    simp [hearW, hok, heardC, wav, Gra.av, Gra.zero, Ple.zero, one]
  | true =>
    have h38 := c38 p
    rw [hok] at h38
    obtain ⟨ok1, ok2, ok3⟩ := ok_cases p hok
    rcases plc_cases (m := p.m) hl with ⟨hlt, hm, hpl⟩ | ⟨hu, hpl⟩
    · rw [hpl] at h39
      generalize hrk : rank l p.m = r at *
      have hv0 := hv r hlt
      repeat' ((conv => whnf); first
          | refine Branch.ofT rfl ?_
          | refine Branch.ofF rfl ?_
          | refine Branch.ofF (decide_eq_false (by omega)) ?_
          | refine Branch.dec (fun h => ?_) (fun h => ?_)
          | refine Branch.negdec (fun h => ?_) (fun h => ?_)
          | refine Branch.neg (fun h => ?_) (fun h => ?_)
          | refine Branch.mk (fun h => ?_) (fun h => ?_)
          | (refine Side.mk ?_ ?_; · first | omega | decide)
          | (refine SideD.mk ?_ ?_; · first | omega | decide)
          | refine ⟨_, Nat.lt_succ_self _, To.refl (.inl ⟨rfl, ?_⟩)⟩
          | refine CallA.pure h38 rfl rfl ?_
          | refine CallA.pure h39 rfl rfl ?_
          | (refine Side.mk ?_ ?_; · ((repeat' apply And.intro) <;> first | omega | rfl | exact Nat.zero_le _ | (simp only [kcells_length]; done) | (simp only [fits]; omega) | (simp only [fits, List.length_append, List.length_take, List.length_drop, List.length_cons, List.length_nil, kcells_length]; omega) | (simp only [List.length_append, List.length_take, List.length_drop, List.length_cons, List.length_nil, kcells_length, rep]; omega) | (repeat' first | exact kcells_scal _ | exact scal_nil | apply scal_take | apply scal_drop | apply scal_int)))
          | refine takeK_at4 (kat _ hlt) ?_
          | (refine lputK_at (l := l) (i := r) (by rw [kn_rep, List.nil_append, kcells_all]) hlt (by omega) ?_)
          | (refine Side.mk ?_ ?_; · (simp; done))
          | fail
          )
      all_goals (conv => whnf)
      all_goals (refine RetA.pub 9 rfl (kcells_noLoc _) ?_)
      all_goals (refine RetA.data rfl ⟨?_, rfl⟩)
      all_goals rw [hearW_known hok hlt hm]
      all_goals (refine Eq.trans (b := AV.agg ([I id, .dslice (((kcells _).drop 0).take (_ * 4)) _ none] ++ [_, _, _, _, _, _, _, _, _] ++ [I 0])) (by exact rfl) (heard_eq ?_ ?_ ?_))
      all_goals (try (rw [set_mid hlt, Nat.zero_add]; done))
      all_goals (try (congr 2; apply kep_eq <;> (simp only [newK, uptK, hearK, agrK, mx]; grind)))
      all_goals (try (apply gra_eq <;> (simp only [newK, uptK, hearK, agrK, mx]; grind)))
    · rw [hpl] at h39
      have h40 := c40 l cap ⟨p.m, p.e, p.h, 0⟩ hl hu
      have hu' : unk l p (rank l p.m) := fun h => hu _ h
      have e1 := (found_rank l p.m hl).le
      generalize hrk : rank l p.m = r at *
      repeat' ((conv => whnf); first
          | refine Branch.ofT rfl ?_
          | refine Branch.ofF rfl ?_
          | refine Branch.ofT (decide_eq_true (by omega)) ?_
          | refine Branch.dec (fun h => ?_) (fun h => ?_)
          | refine Branch.negdec (fun h => ?_) (fun h => ?_)
          | refine Branch.neg (fun h => ?_) (fun h => ?_)
          | refine Branch.mk (fun h => ?_) (fun h => ?_)
          | (refine Side.mk ?_ ?_; · first | omega | decide)
          | (refine SideD.mk ?_ ?_; · first | omega | decide)
          | refine ⟨_, Nat.lt_succ_self _, To.refl (.inl ⟨rfl, ?_⟩)⟩
          | refine CallA.pure h38 rfl rfl ?_
          | refine CallA.pure h39 rfl rfl ?_
          | refine QCallA.of h40 rfl rfl ?_
          | (refine Side.mk ?_ ?_; · (simp; done))
          | fail
          )
      all_goals (conv => whnf)
      · refine RetA.data rfl ⟨?_, rfl⟩
        rw [hearW_limit hok hu' (by assumption)]; rfl
      · refine RetA.data rfl ⟨?_, rfl⟩
        rw [hearW_conf hok hu' (by assumption) (by assumption)]; rfl
      · refine RetA.data rfl ⟨?_, rfl⟩
        have hk1 : p.k = 1 := by omega
        have hpu : p.u = 0 := by omega
        have hnew : newK ⟨p.m, 0, 0, 0⟩ p = ⟨p.m, p.e, p.h, 0⟩ := by
          apply kep_eq <;> (simp only [newK, uptK, hearK, agrK, mx]; grind)
        have hgra : graK id ⟨p.m, 0, 0, 0⟩ p = ⟨id, p, true, p.e, 0⟩ := by
          unfold graK; rw [hnew]; simp only [Gra.mk.injEq]; simp only [hearK, agrK]; grind
        rw [hearW_new hok hu' (by assumption) (by assumption), hnew, hgra]
        have hlen : (l.take r ++ (⟨p.m, p.e, p.h, 0⟩ : Kep) :: l.drop r).length = l.length + 1 := by simp; omega
        simp only [heardC, wav, hlen]; rfl
end Go.Proofs

