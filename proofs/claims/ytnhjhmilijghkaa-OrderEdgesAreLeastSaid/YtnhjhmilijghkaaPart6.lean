/- Part of a proof about the given program: lemmas that the other parts use. -/
import Derived.Test.YtnhjhmilijghkaaPart5
import Derived.Test.YtnhjhmilijghkaaPart4
import Derived.Test.YtnhjhmilijghkaaProg
import Derived.KernelRfl

set_option linter.all false
set_option linter.unusedSimpArgs false
set_option linter.unusedVariables false
set_option maxRecDepth 100000
namespace Go.Proofs
open Go Go.Eng
/-- slices.pdqsortOrdered[int] -/
def ac49 : AC := (.seq (.reg [⟨some 8, .p (.mov (.c (.bool true))), none⟩])
  (.seq (.reg [⟨some 9, .p (.mov (.c (.bool true))), none⟩])
  (.block 0 (.loop (.block 1 (.seq (.reg [⟨some 19, .p (.mov (.t 2)), none⟩,
    ⟨some 20, .p (.mov (.t 1)), none⟩,
    ⟨some 21, .p (.bin .sub (.t 19) (.t 20)), none⟩,
    ⟨some 10, .p (.mov (.t 21)), none⟩])
  (.seq (.seq (.reg [⟨some 22, .p (.mov (.t 10)), none⟩,
    ⟨some 23, .p (.bin .leq (.t 22) (.c (.int .i64 12))), none⟩])
  (.cond (.t 23) (.seq (.reg [⟨some 24, .p (.mov (.t 0)), none⟩,
    ⟨some 25, .p (.mov (.t 1)), none⟩,
    ⟨some 26, .p (.mov (.t 2)), none⟩,
    ⟨some 27, .call 52 [(.t 24), (.t 25), (.t 26)], none⟩])
  .ret) .skip))
  (.seq (.seq (.reg [⟨some 28, .p (.mov (.t 3)), none⟩,
    ⟨some 29, .p (.bin .eql (.t 28) (.c (.int .i64 0))), none⟩])
  (.cond (.t 29) (.seq (.reg [⟨some 30, .p (.mov (.t 0)), none⟩,
    ⟨some 31, .p (.mov (.t 1)), none⟩,
    ⟨some 32, .p (.mov (.t 2)), none⟩,
    ⟨some 33, .call 53 [(.t 30), (.t 31), (.t 32)], none⟩])
  .ret) .skip))
  (.seq (.seq (.reg [⟨some 34, .p (.mov (.t 8)), none⟩,
    ⟨some 35, .p (.un .not (.t 34)), none⟩])
  (.cond (.t 35) (.seq (.reg [⟨some 36, .p (.mov (.t 0)), none⟩,
    ⟨some 37, .p (.mov (.t 1)), none⟩,
    ⟨some 38, .p (.mov (.t 2)), none⟩,
    ⟨some 39, .call 54 [(.t 36), (.t 37), (.t 38)], none⟩])
  (.reg [⟨some 40, .p (.mov (.t 3)), none⟩,
    ⟨some 41, .p (.bin .sub (.t 40) (.c (.int .i64 1))), none⟩,
    ⟨some 3, .p (.mov (.t 41)), none⟩])) .skip))
  (.seq (.reg [⟨some 43, .p (.mov (.t 0)), none⟩,
    ⟨some 44, .p (.mov (.t 1)), none⟩,
    ⟨some 45, .p (.mov (.t 2)), none⟩,
    ⟨some 46, .call 55 [(.t 43), (.t 44), (.t 45)], none⟩,
    ⟨some 42, .p (.mov (.t 46)), none⟩,
    ⟨some 47, .p (.extract 0 (.t 42)), none⟩,
    ⟨some 48, .p (.extract 1 (.t 42)), none⟩,
    ⟨some 11, .p (.mov (.t 47)), none⟩,
    ⟨some 12, .p (.mov (.t 48)), none⟩])
  (.seq (.seq (.reg [⟨some 49, .p (.mov (.t 12)), none⟩,
    ⟨some 50, .p (.bin .eql (.t 49) (.c (.int .i64 2))), none⟩])
  (.cond (.t 50) (.seq (.reg [⟨some 51, .p (.mov (.t 0)), none⟩,
    ⟨some 52, .p (.mov (.t 1)), none⟩,
    ⟨some 53, .p (.mov (.t 2)), none⟩,
    ⟨some 54, .call 56 [(.t 51), (.t 52), (.t 53)], none⟩])
  (.seq (.reg [⟨some 55, .p (.mov (.t 2)), none⟩,
    ⟨some 56, .p (.bin .sub (.t 55) (.c (.int .i64 1))), none⟩,
    ⟨some 57, .p (.mov (.t 11)), none⟩,
    ⟨some 58, .p (.mov (.t 1)), none⟩,
    ⟨some 59, .p (.bin .sub (.t 57) (.t 58)), none⟩,
    ⟨some 60, .p (.bin .sub (.t 56) (.t 59)), none⟩,
    ⟨some 11, .p (.mov (.t 60)), none⟩])
  (.reg [⟨some 12, .p (.mov (.c (.int .i64 1))), none⟩]))) .skip))
  (.seq (.seq (.reg [⟨some 61, .p (.mov (.t 8)), none⟩,
    ⟨some 62, .p (.mov (.t 61)), none⟩,
    ⟨some 63, .p (.mov (.t 9)), (some (62, true))⟩,
    ⟨some 64, .p (.pick (.t 62) (.t 63) (.c (.bool false))), none⟩,
    ⟨some 65, .p (.mov (.t 64)), none⟩,
    ⟨some 66, .p (.mov (.t 12)), (some (65, true))⟩,
    ⟨some 67, .p (.bin .eql (.t 66) (.c (.int .i64 1))), (some (65, true))⟩,
    ⟨some 68, .p (.pick (.t 65) (.t 67) (.c (.bool false))), none⟩])
  (.cond (.t 68) (.seq (.reg [⟨some 69, .p (.mov (.t 0)), none⟩,
    ⟨some 70, .p (.mov (.t 1)), none⟩,
    ⟨some 71, .p (.mov (.t 2)), none⟩,
    ⟨some 72, .call 57 [(.t 69), (.t 70), (.t 71)], none⟩])
  (.cond (.t 72) .ret .skip)) .skip))
  (.seq (.seq (.draw 15 [] [⟨some 73, .p (.mov (.t 1)), none⟩,
    ⟨some 74, .p (.bin .gtr (.t 73) (.c (.int .i64 0))), none⟩,
    ⟨some 75, .p (.mov (.t 74)), none⟩,
    ⟨some 76, .p (.mov (.t 0)), (some (75, true))⟩,
    ⟨some 77, .p (.mov (.t 1)), (some (75, true))⟩,
    ⟨some 78, .p (.bin .sub (.t 77) (.c (.int .i64 1))), (some (75, true))⟩,
    ⟨some 79, .p (.idxA 1 none (.t 76) (.t 78)), (some (75, true))⟩,
    ⟨some 80, .h (.load false 1 (.t 79)), (some (75, true))⟩,
    ⟨some 81, .p (.mov (.t 0)), (some (75, true))⟩,
    ⟨some 82, .p (.mov (.t 11)), (some (75, true))⟩,
    ⟨some 83, .p (.idxA 1 none (.t 81) (.t 82)), (some (75, true))⟩,
    ⟨some 84, .h (.load false 1 (.t 83)), (some (75, true))⟩,
    ⟨some 85, .call 58 [(.t 80), (.t 84)], (some (75, true))⟩,
    ⟨some 86, .p (.un .not (.t 85)), (some (75, true))⟩,
    ⟨some 87, .p (.pick (.t 75) (.t 86) (.c (.bool false))), none⟩])
  (.cond (.t 87) (.seq (.reg [⟨some 88, .p (.mov (.t 0)), none⟩,
    ⟨some 89, .p (.mov (.t 1)), none⟩,
    ⟨some 90, .p (.mov (.t 2)), none⟩,
    ⟨some 91, .p (.mov (.t 11)), none⟩,
    ⟨some 92, .call 59 [(.t 88), (.t 89), (.t 90), (.t 91)], none⟩,
    ⟨some 13, .p (.mov (.t 92)), none⟩])
  (.seq (.reg [⟨some 93, .p (.mov (.t 13)), none⟩,
    ⟨some 1, .p (.mov (.t 93)), none⟩])
  (.exit 1))) .skip))
  (.seq (.reg [⟨some 95, .p (.mov (.t 0)), none⟩,
    ⟨some 96, .p (.mov (.t 1)), none⟩,
    ⟨some 97, .p (.mov (.t 2)), none⟩,
    ⟨some 98, .p (.mov (.t 11)), none⟩,
    ⟨some 99, .call 60 [(.t 95), (.t 96), (.t 97), (.t 98)], none⟩,
    ⟨some 94, .p (.mov (.t 99)), none⟩,
    ⟨some 100, .p (.extract 0 (.t 94)), none⟩,
    ⟨some 101, .p (.extract 1 (.t 94)), none⟩,
    ⟨some 14, .p (.mov (.t 100)), none⟩,
    ⟨some 15, .p (.mov (.t 101)), none⟩])
  (.seq (.reg [⟨some 102, .p (.mov (.t 15)), none⟩,
    ⟨some 9, .p (.mov (.t 102)), none⟩])
  (.seq (.reg [⟨some 103, .p (.mov (.t 14)), none⟩,
    ⟨some 104, .p (.mov (.t 1)), none⟩,
    ⟨some 105, .p (.bin .sub (.t 103) (.t 104)), none⟩,
    ⟨some 106, .p (.mov (.t 2)), none⟩,
    ⟨some 107, .p (.mov (.t 14)), none⟩,
    ⟨some 108, .p (.bin .sub (.t 106) (.t 107)), none⟩,
    ⟨some 16, .p (.mov (.t 105)), none⟩,
    ⟨some 17, .p (.mov (.t 108)), none⟩])
  (.seq (.reg [⟨some 109, .p (.mov (.t 10)), none⟩,
    ⟨some 110, .p (.bin .quo (.t 109) (.c (.int .i64 8))), none⟩,
    ⟨some 18, .p (.mov (.t 110)), none⟩])
  (.seq (.reg [⟨some 111, .p (.mov (.t 16)), none⟩,
    ⟨some 112, .p (.mov (.t 17)), none⟩,
    ⟨some 113, .p (.bin .lss (.t 111) (.t 112)), none⟩])
  (.cond (.t 113) (.seq (.reg [⟨some 114, .p (.mov (.t 16)), none⟩,
    ⟨some 115, .p (.mov (.t 18)), none⟩,
    ⟨some 116, .p (.bin .geq (.t 114) (.t 115)), none⟩,
    ⟨some 8, .p (.mov (.t 116)), none⟩])
  (.seq (.reg [⟨some 117, .p (.mov (.t 0)), none⟩,
    ⟨some 118, .p (.mov (.t 1)), none⟩,
    ⟨some 119, .p (.mov (.t 14)), none⟩,
    ⟨some 120, .p (.mov (.t 3)), none⟩,
    ⟨some 121, .call 49 [(.t 117), (.t 118), (.t 119), (.t 120)], none⟩])
  (.reg [⟨some 122, .p (.mov (.t 14)), none⟩,
    ⟨some 123, .p (.bin .add (.t 122) (.c (.int .i64 1))), none⟩,
    ⟨some 1, .p (.mov (.t 123)), none⟩]))) (.seq (.reg [⟨some 124, .p (.mov (.t 17)), none⟩,
    ⟨some 125, .p (.mov (.t 18)), none⟩,
    ⟨some 126, .p (.bin .geq (.t 124) (.t 125)), none⟩,
    ⟨some 8, .p (.mov (.t 126)), none⟩])
  (.seq (.reg [⟨some 127, .p (.mov (.t 0)), none⟩,
    ⟨some 128, .p (.mov (.t 14)), none⟩,
    ⟨some 129, .p (.bin .add (.t 128) (.c (.int .i64 1))), none⟩,
    ⟨some 130, .p (.mov (.t 2)), none⟩,
    ⟨some 131, .p (.mov (.t 3)), none⟩,
    ⟨some 132, .call 49 [(.t 127), (.t 129), (.t 130), (.t 131)], none⟩])
  (.reg [⟨some 133, .p (.mov (.t 14)), none⟩,
    ⟨some 2, .p (.mov (.t 133)), none⟩]))))))))))))))))))))))
def rs49 : List AR := []
theorem ok49 : okF Try.prog 49 134 ac49 rs49 = true := by kernel_rfl
/-- math/bits.Len -/
def ac50 : AC := (.seq (.reg [⟨some 2, .p (.mov (.c (.int .i64 0))), none⟩])
  (.seq (.cond (.c (.bool false)) (.seq (.reg [⟨some 3, .p (.mov (.t 0)), none⟩,
    ⟨some 4, .p (.convw .u32 (.t 3)), none⟩,
    ⟨some 5, .call 61 [(.t 4)], none⟩,
    ⟨some 2, .p (.mov (.t 5)), none⟩])
  .ret) .skip)
  (.seq (.reg [⟨some 6, .p (.mov (.t 0)), none⟩,
    ⟨some 7, .call 62 [(.t 6)], none⟩,
    ⟨some 2, .p (.mov (.t 7)), none⟩])
  .ret)))
def rs50 : List AR := [.tmp 2]
theorem ok50 : okF Try.prog 50 8 ac50 rs50 = true := by kernel_rfl
/-- simulacrum/order.ready$1 -/
def ac51 : AC := (.seq (.reg [⟨some 7, .h (.load false 1 (.t 1)), none⟩,
    ⟨some 8, .p (.len false (.t 7)), none⟩,
    ⟨some 9, .p (.mov (.c (.int .i64 0))), none⟩])
  (.block 0 (.loop (.seq (.reg [⟨some 10, .p (.bin .lss (.t 9) (.t 8)), none⟩])
  (.seq (.cond (.t 10) .skip (.exit 0))
  (.seq (.block 1 (.seq (.reg [⟨some 11, .p (.mov (.t 9)), none⟩,
    ⟨some 4, .p (.mov (.t 11)), none⟩])
  (.seq (.reg [⟨some 12, .h (.load false 1 (.t 2)), none⟩,
    ⟨some 13, .p (.mov (.t 4)), none⟩,
    ⟨some 14, .call 31 [(.t 12), (.t 13)], none⟩,
    ⟨some 5, .p (.mov (.t 14)), none⟩])
  (.seq (.seq (.reg [⟨some 15, .p (.mov (.c (.int .i64 0))), none⟩])
  (.block 2 (.loop (.seq (.reg [⟨some 16, .p (.bin .lss (.t 15) (.c (.int .i64 7))), none⟩])
  (.seq (.cond (.t 16) .skip (.exit 2))
  (.seq (.block 3 (.seq (.reg [⟨some 17, .p (.mov (.t 15)), none⟩,
    ⟨some 6, .p (.mov (.t 17)), none⟩])
  (.draw 17 [] [⟨some 18, .p (.mov (.t 5)), none⟩,
    ⟨some 19, .p (.mov (.t 18)), none⟩,
    ⟨some 20, .h (.load false 1 (.t 1)), (some (19, false))⟩,
    ⟨some 21, .p (.mov (.t 4)), (some (19, false))⟩,
    ⟨some 22, .p (.mov (.t 6)), (some (19, false))⟩,
    ⟨some 23, .p (.idxA 7 none (.t 20) (.t 21)), (some (19, false))⟩,
    ⟨some 24, .p (.idxA 1 (some 7) (.t 23) (.t 22)), (some (19, false))⟩,
    ⟨some 25, .h (.load false 1 (.t 24)), (some (19, false))⟩,
    ⟨some 26, .h (.load false 1 (.t 2)), (some (19, false))⟩,
    ⟨some 27, .p (.mov (.t 6)), (some (19, false))⟩,
    ⟨some 28, .p (.nilchk (.t 26)), (some (19, false))⟩,
    ⟨some 29, .p (.idxA 1 (some 7) (.t 28) (.t 27)), (some (19, false))⟩,
    ⟨some 30, .h (.load false 1 (.t 29)), (some (19, false))⟩,
    ⟨some 31, .p (.binw .andNot (.t 25) (.t 30)), (some (19, false))⟩,
    ⟨some 32, .p (.binw .neq (.t 31) (.c (.int .u64 0))), (some (19, false))⟩,
    ⟨some 33, .p (.pick (.t 19) (.c (.bool true)) (.t 32)), none⟩,
    ⟨some 5, .p (.mov (.t 33)), none⟩])))
  (.reg [⟨some 34, .p (.bin .add (.t 15) (.c (.int .i64 1))), none⟩,
    ⟨some 15, .p (.mov (.t 34)), none⟩])))))))
  (.seq (.reg [⟨some 35, .p (.mov (.t 5)), none⟩,
    ⟨some 36, .p (.un .not (.t 35)), none⟩,
    ⟨some 37, .p (.mov (.t 36)), none⟩,
    ⟨some 38, .p (.mov (.t 0)), (some (37, true))⟩,
    ⟨some 39, .p (.mov (.t 4)), (some (37, true))⟩,
    ⟨some 40, .callv (.t 38) [(.t 39)], (some (37, true))⟩,
    ⟨some 41, .p (.un .not (.t 40)), (some (37, true))⟩,
    ⟨some 42, .p (.pick (.t 37) (.t 41) (.c (.bool false))), none⟩])
  (.cond (.t 42) .ret .skip))))))
  (.reg [⟨some 43, .p (.bin .add (.t 9) (.c (.int .i64 1))), none⟩,
    ⟨some 9, .p (.mov (.t 43)), none⟩])))))))
def rs51 : List AR := []
theorem ok51 : okF Try.prog 51 44 ac51 rs51 = true := by kernel_rfl
/-- slices.insertionSortOrdered[int] -/
def ac52 : AC := (.seq (.reg [⟨some 8, .p (.mov (.t 1)), none⟩,
    ⟨some 9, .p (.bin .add (.t 8) (.c (.int .i64 1))), none⟩,
    ⟨some 6, .p (.mov (.t 9)), none⟩])
  (.block 0 (.loop (.seq (.seq (.reg [⟨some 10, .p (.mov (.t 6)), none⟩,
    ⟨some 11, .p (.mov (.t 2)), none⟩,
    ⟨some 12, .p (.bin .lss (.t 10) (.t 11)), none⟩])
  (.cond (.t 12) .skip (.exit 0)))
  (.seq (.block 1 (.seq (.reg [⟨some 15, .p (.mov (.t 6)), none⟩,
    ⟨some 7, .p (.mov (.t 15)), none⟩])
  (.block 2 (.loop (.seq (.seq (.draw 15 [] [⟨some 16, .p (.mov (.t 7)), none⟩,
    ⟨some 17, .p (.mov (.t 1)), none⟩,
    ⟨some 18, .p (.bin .gtr (.t 16) (.t 17)), none⟩,
    ⟨some 19, .p (.mov (.t 18)), none⟩,
    ⟨some 20, .p (.mov (.t 0)), (some (19, true))⟩,
    ⟨some 21, .p (.mov (.t 7)), (some (19, true))⟩,
    ⟨some 22, .p (.idxA 1 none (.t 20) (.t 21)), (some (19, true))⟩,
    ⟨some 23, .h (.load false 1 (.t 22)), (some (19, true))⟩,
    ⟨some 24, .p (.mov (.t 0)), (some (19, true))⟩,
    ⟨some 25, .p (.mov (.t 7)), (some (19, true))⟩,
    ⟨some 26, .p (.bin .sub (.t 25) (.c (.int .i64 1))), (some (19, true))⟩,
    ⟨some 27, .p (.idxA 1 none (.t 24) (.t 26)), (some (19, true))⟩,
    ⟨some 28, .h (.load false 1 (.t 27)), (some (19, true))⟩,
    ⟨some 29, .call 58 [(.t 23), (.t 28)], (some (19, true))⟩,
    ⟨some 30, .p (.pick (.t 19) (.t 29) (.c (.bool false))), none⟩])
  (.cond (.t 30) .skip (.exit 2)))
  (.seq (.block 3 (.draw 18 [(9, 15), (13, 15), (13, 17), (15, 17), (9, 17)] [⟨some 33, .p (.mov (.t 0)), none⟩,
    ⟨some 34, .p (.mov (.t 7)), none⟩,
    ⟨some 35, .p (.mov (.t 0)), none⟩,
    ⟨some 36, .p (.mov (.t 7)), none⟩,
    ⟨some 37, .p (.bin .sub (.t 36) (.c (.int .i64 1))), none⟩,
    ⟨some 38, .p (.mov (.t 0)), none⟩,
    ⟨some 39, .p (.mov (.t 7)), none⟩,
    ⟨some 40, .p (.bin .sub (.t 39) (.c (.int .i64 1))), none⟩,
    ⟨some 41, .p (.idxA 1 none (.t 38) (.t 40)), none⟩,
    ⟨some 42, .h (.load false 1 (.t 41)), none⟩,
    ⟨some 43, .p (.mov (.t 0)), none⟩,
    ⟨some 44, .p (.mov (.t 7)), none⟩,
    ⟨some 45, .p (.idxA 1 none (.t 43) (.t 44)), none⟩,
    ⟨some 46, .h (.load false 1 (.t 45)), none⟩,
    ⟨some 47, .p (.idxA 1 none (.t 33) (.t 34)), none⟩,
    ⟨none, .h (.store 1 (.t 47) (.t 42)), none⟩,
    ⟨some 48, .p (.idxA 1 none (.t 35) (.t 37)), none⟩,
    ⟨none, .h (.store 1 (.t 48) (.t 46)), none⟩]))
  (.reg [⟨some 31, .p (.mov (.t 7)), none⟩,
    ⟨some 32, .p (.bin .sub (.t 31) (.c (.int .i64 1))), none⟩,
    ⟨some 7, .p (.mov (.t 32)), none⟩])))))))
  (.reg [⟨some 13, .p (.mov (.t 6)), none⟩,
    ⟨some 14, .p (.bin .add (.t 13) (.c (.int .i64 1))), none⟩,
    ⟨some 6, .p (.mov (.t 14)), none⟩]))))))
def rs52 : List AR := []
theorem ok52 : okF Try.prog 52 49 ac52 rs52 = true := by kernel_rfl
/-- slices.heapSortOrdered[int] -/
def ac53 : AC := (.seq (.reg [⟨some 11, .p (.mov (.t 1)), none⟩,
    ⟨some 6, .p (.mov (.t 11)), none⟩])
  (.seq (.reg [⟨some 7, .p (.mov (.c (.int .i64 0))), none⟩])
  (.seq (.reg [⟨some 12, .p (.mov (.t 2)), none⟩,
    ⟨some 13, .p (.mov (.t 1)), none⟩,
    ⟨some 14, .p (.bin .sub (.t 12) (.t 13)), none⟩,
    ⟨some 8, .p (.mov (.t 14)), none⟩])
  (.seq (.seq (.reg [⟨some 15, .p (.mov (.t 8)), none⟩,
    ⟨some 16, .p (.bin .sub (.t 15) (.c (.int .i64 1))), none⟩,
    ⟨some 17, .p (.bin .quo (.t 16) (.c (.int .i64 2))), none⟩,
    ⟨some 9, .p (.mov (.t 17)), none⟩])
  (.block 0 (.loop (.seq (.seq (.reg [⟨some 18, .p (.mov (.t 9)), none⟩,
    ⟨some 19, .p (.bin .geq (.t 18) (.c (.int .i64 0))), none⟩])
  (.cond (.t 19) .skip (.exit 0)))
  (.seq (.block 1 (.reg [⟨some 22, .p (.mov (.t 0)), none⟩,
    ⟨some 23, .p (.mov (.t 9)), none⟩,
    ⟨some 24, .p (.mov (.t 8)), none⟩,
    ⟨some 25, .p (.mov (.t 6)), none⟩,
    ⟨some 26, .call 63 [(.t 22), (.t 23), (.t 24), (.t 25)], none⟩]))
  (.reg [⟨some 20, .p (.mov (.t 9)), none⟩,
    ⟨some 21, .p (.bin .sub (.t 20) (.c (.int .i64 1))), none⟩,
    ⟨some 9, .p (.mov (.t 21)), none⟩]))))))
  (.seq (.reg [⟨some 27, .p (.mov (.t 8)), none⟩,
    ⟨some 28, .p (.bin .sub (.t 27) (.c (.int .i64 1))), none⟩,
    ⟨some 10, .p (.mov (.t 28)), none⟩])
  (.block 2 (.loop (.seq (.seq (.reg [⟨some 29, .p (.mov (.t 10)), none⟩,
    ⟨some 30, .p (.bin .geq (.t 29) (.c (.int .i64 0))), none⟩])
  (.cond (.t 30) .skip (.exit 2)))
  (.seq (.block 3 (.seq (.draw 20 [(11, 17), (15, 17), (15, 19), (17, 19), (11, 19)] [⟨some 33, .p (.mov (.t 0)), none⟩,
    ⟨some 34, .p (.mov (.t 6)), none⟩,
    ⟨some 35, .p (.mov (.t 0)), none⟩,
    ⟨some 36, .p (.mov (.t 6)), none⟩,
    ⟨some 37, .p (.mov (.t 10)), none⟩,
    ⟨some 38, .p (.bin .add (.t 36) (.t 37)), none⟩,
    ⟨some 39, .p (.mov (.t 0)), none⟩,
    ⟨some 40, .p (.mov (.t 6)), none⟩,
    ⟨some 41, .p (.mov (.t 10)), none⟩,
    ⟨some 42, .p (.bin .add (.t 40) (.t 41)), none⟩,
    ⟨some 43, .p (.idxA 1 none (.t 39) (.t 42)), none⟩,
    ⟨some 44, .h (.load false 1 (.t 43)), none⟩,
    ⟨some 45, .p (.mov (.t 0)), none⟩,
    ⟨some 46, .p (.mov (.t 6)), none⟩,
    ⟨some 47, .p (.idxA 1 none (.t 45) (.t 46)), none⟩,
    ⟨some 48, .h (.load false 1 (.t 47)), none⟩,
    ⟨some 49, .p (.idxA 1 none (.t 33) (.t 34)), none⟩,
    ⟨none, .h (.store 1 (.t 49) (.t 44)), none⟩,
    ⟨some 50, .p (.idxA 1 none (.t 35) (.t 38)), none⟩,
    ⟨none, .h (.store 1 (.t 50) (.t 48)), none⟩])
  (.reg [⟨some 51, .p (.mov (.t 0)), none⟩,
    ⟨some 52, .p (.mov (.t 7)), none⟩,
    ⟨some 53, .p (.mov (.t 10)), none⟩,
    ⟨some 54, .p (.mov (.t 6)), none⟩,
    ⟨some 55, .call 63 [(.t 51), (.t 52), (.t 53), (.t 54)], none⟩])))
  (.reg [⟨some 31, .p (.mov (.t 10)), none⟩,
    ⟨some 32, .p (.bin .sub (.t 31) (.c (.int .i64 1))), none⟩,
    ⟨some 10, .p (.mov (.t 32)), none⟩]))))))))))
def rs53 : List AR := []
theorem ok53 : okF Try.prog 53 56 ac53 rs53 = true := by kernel_rfl
/-- slices.breakPatternsOrdered[int] -/
def ac54 : AC := (.seq (.reg [⟨some 11, .p (.mov (.t 2)), none⟩,
    ⟨some 12, .p (.mov (.t 1)), none⟩,
    ⟨some 13, .p (.bin .sub (.t 11) (.t 12)), none⟩,
    ⟨some 6, .p (.mov (.t 13)), none⟩])
  (.seq (.reg [⟨some 14, .p (.mov (.t 6)), none⟩,
    ⟨some 15, .p (.bin .geq (.t 14) (.c (.int .i64 8))), none⟩])
  (.cond (.t 15) (.seq (.reg [⟨some 16, .p (.mov (.t 6)), none⟩,
    ⟨some 17, .p (.convw .u64 (.t 16)), none⟩,
    ⟨some 7, .h (.alloc [(.int .u64 0)]), none⟩,
    ⟨none, .h (.store 1 (.t 7) (.t 17)), none⟩])
  (.seq (.reg [⟨some 18, .p (.mov (.t 6)), none⟩,
    ⟨some 19, .call 64 [(.t 18)], none⟩,
    ⟨some 8, .p (.mov (.t 19)), none⟩])
  (.seq (.reg [⟨some 20, .p (.mov (.t 1)), none⟩,
    ⟨some 21, .p (.mov (.t 6)), none⟩,
    ⟨some 22, .p (.bin .quo (.t 21) (.c (.int .i64 4))), none⟩,
    ⟨some 23, .p (.bin .mul (.t 22) (.c (.int .i64 2))), none⟩,
    ⟨some 24, .p (.bin .add (.t 20) (.t 23)), none⟩,
    ⟨some 25, .p (.bin .sub (.t 24) (.c (.int .i64 1))), none⟩,
    ⟨some 9, .p (.mov (.t 25)), none⟩])
  (.block 0 (.loop (.seq (.seq (.reg [⟨some 26, .p (.mov (.t 9)), none⟩,
    ⟨some 27, .p (.mov (.t 1)), none⟩,
    ⟨some 28, .p (.mov (.t 6)), none⟩,
    ⟨some 29, .p (.bin .quo (.t 28) (.c (.int .i64 4))), none⟩,
    ⟨some 30, .p (.bin .mul (.t 29) (.c (.int .i64 2))), none⟩,
    ⟨some 31, .p (.bin .add (.t 27) (.t 30)), none⟩,
    ⟨some 32, .p (.bin .add (.t 31) (.c (.int .i64 1))), none⟩,
    ⟨some 33, .p (.bin .leq (.t 26) (.t 32)), none⟩])
  (.cond (.t 33) .skip (.exit 0)))
  (.seq (.block 1 (.seq (.reg [⟨some 36, .call 65 [(.t 7)], none⟩,
    ⟨some 37, .p (.mov (.t 8)), none⟩,
    ⟨some 38, .p (.binw .sub (.t 37) (.c (.int .u64 1))), none⟩,
    ⟨some 39, .p (.binw .and (.t 36) (.t 38)), none⟩,
    ⟨some 40, .p (.convw .i64 (.t 39)), none⟩,
    ⟨some 10, .p (.mov (.t 40)), none⟩])
  (.seq (.seq (.reg [⟨some 41, .p (.mov (.t 10)), none⟩,
    ⟨some 42, .p (.mov (.t 6)), none⟩,
    ⟨some 43, .p (.bin .geq (.t 41) (.t 42)), none⟩])
  (.cond (.t 43) (.reg [⟨some 44, .p (.mov (.t 10)), none⟩,
    ⟨some 45, .p (.mov (.t 6)), none⟩,
    ⟨some 46, .p (.bin .sub (.t 44) (.t 45)), none⟩,
    ⟨some 10, .p (.mov (.t 46)), none⟩]) .skip))
  (.draw 20 [(11, 17), (15, 17), (15, 19), (17, 19), (11, 19)] [⟨some 47, .p (.mov (.t 0)), none⟩,
    ⟨some 48, .p (.mov (.t 9)), none⟩,
    ⟨some 49, .p (.mov (.t 0)), none⟩,
    ⟨some 50, .p (.mov (.t 1)), none⟩,
    ⟨some 51, .p (.mov (.t 10)), none⟩,
    ⟨some 52, .p (.bin .add (.t 50) (.t 51)), none⟩,
    ⟨some 53, .p (.mov (.t 0)), none⟩,
    ⟨some 54, .p (.mov (.t 1)), none⟩,
    ⟨some 55, .p (.mov (.t 10)), none⟩,
    ⟨some 56, .p (.bin .add (.t 54) (.t 55)), none⟩,
    ⟨some 57, .p (.idxA 1 none (.t 53) (.t 56)), none⟩,
    ⟨some 58, .h (.load false 1 (.t 57)), none⟩,
    ⟨some 59, .p (.mov (.t 0)), none⟩,
    ⟨some 60, .p (.mov (.t 9)), none⟩,
    ⟨some 61, .p (.idxA 1 none (.t 59) (.t 60)), none⟩,
    ⟨some 62, .h (.load false 1 (.t 61)), none⟩,
    ⟨some 63, .p (.idxA 1 none (.t 47) (.t 48)), none⟩,
    ⟨none, .h (.store 1 (.t 63) (.t 58)), none⟩,
    ⟨some 64, .p (.idxA 1 none (.t 49) (.t 52)), none⟩,
    ⟨none, .h (.store 1 (.t 64) (.t 62)), none⟩]))))
  (.reg [⟨some 34, .p (.mov (.t 9)), none⟩,
    ⟨some 35, .p (.bin .add (.t 34) (.c (.int .i64 1))), none⟩,
    ⟨some 9, .p (.mov (.t 35)), none⟩])))))))) .skip)))
def rs54 : List AR := []
theorem ok54 : okF Try.prog 54 65 ac54 rs54 = true := by kernel_rfl
/-- slices.choosePivotOrdered[int] -/
def ac55 : AC := (.seq (.reg [⟨some 6, .p (.mov (.c (.int .i64 0))), none⟩,
    ⟨some 7, .p (.mov (.c (.int .i64 0))), none⟩])
  (.seq (.reg [⟨some 13, .p (.mov (.t 2)), none⟩,
    ⟨some 14, .p (.mov (.t 1)), none⟩,
    ⟨some 15, .p (.bin .sub (.t 13) (.t 14)), none⟩,
    ⟨some 8, .p (.mov (.t 15)), none⟩])
  (.seq (.reg [⟨some 9, .h (.alloc [(.int .i64 0)]), none⟩])
  (.seq (.reg [⟨some 16, .p (.mov (.t 1)), none⟩,
    ⟨some 17, .p (.mov (.t 8)), none⟩,
    ⟨some 18, .p (.bin .quo (.t 17) (.c (.int .i64 4))), none⟩,
    ⟨some 19, .p (.bin .mul (.t 18) (.c (.int .i64 1))), none⟩,
    ⟨some 20, .p (.bin .add (.t 16) (.t 19)), none⟩,
    ⟨some 10, .p (.mov (.t 20)), none⟩])
  (.seq (.reg [⟨some 21, .p (.mov (.t 1)), none⟩,
    ⟨some 22, .p (.mov (.t 8)), none⟩,
    ⟨some 23, .p (.bin .quo (.t 22) (.c (.int .i64 4))), none⟩,
    ⟨some 24, .p (.bin .mul (.t 23) (.c (.int .i64 2))), none⟩,
    ⟨some 25, .p (.bin .add (.t 21) (.t 24)), none⟩,
    ⟨some 11, .p (.mov (.t 25)), none⟩])
  (.seq (.reg [⟨some 26, .p (.mov (.t 1)), none⟩,
    ⟨some 27, .p (.mov (.t 8)), none⟩,
    ⟨some 28, .p (.bin .quo (.t 27) (.c (.int .i64 4))), none⟩,
    ⟨some 29, .p (.bin .mul (.t 28) (.c (.int .i64 3))), none⟩,
    ⟨some 30, .p (.bin .add (.t 26) (.t 29)), none⟩,
    ⟨some 12, .p (.mov (.t 30)), none⟩])
  (.seq (.seq (.reg [⟨some 31, .p (.mov (.t 8)), none⟩,
    ⟨some 32, .p (.bin .geq (.t 31) (.c (.int .i64 8))), none⟩])
  (.cond (.t 32) (.seq (.seq (.reg [⟨some 33, .p (.mov (.t 8)), none⟩,
    ⟨some 34, .p (.bin .geq (.t 33) (.c (.int .i64 50))), none⟩])
  (.cond (.t 34) (.seq (.reg [⟨some 35, .p (.mov (.t 0)), none⟩,
    ⟨some 36, .p (.mov (.t 10)), none⟩,
    ⟨some 37, .call 66 [(.t 35), (.t 36), (.t 9)], none⟩,
    ⟨some 10, .p (.mov (.t 37)), none⟩])
  (.seq (.reg [⟨some 38, .p (.mov (.t 0)), none⟩,
    ⟨some 39, .p (.mov (.t 11)), none⟩,
    ⟨some 40, .call 66 [(.t 38), (.t 39), (.t 9)], none⟩,
    ⟨some 11, .p (.mov (.t 40)), none⟩])
  (.reg [⟨some 41, .p (.mov (.t 0)), none⟩,
    ⟨some 42, .p (.mov (.t 12)), none⟩,
    ⟨some 43, .call 66 [(.t 41), (.t 42), (.t 9)], none⟩,
    ⟨some 12, .p (.mov (.t 43)), none⟩]))) .skip))
  (.reg [⟨some 44, .p (.mov (.t 0)), none⟩,
    ⟨some 45, .p (.mov (.t 10)), none⟩,
    ⟨some 46, .p (.mov (.t 11)), none⟩,
    ⟨some 47, .p (.mov (.t 12)), none⟩,
    ⟨some 48, .call 67 [(.t 44), (.t 45), (.t 46), (.t 47), (.t 9)], none⟩,
    ⟨some 11, .p (.mov (.t 48)), none⟩])) .skip))
  (.seq (.reg [⟨some 49, .h (.load false 1 (.t 9)), none⟩])
  (.block 0 (.seq (.reg [⟨some 52, .p (.bin .eql (.t 49) (.c (.int .i64 0))), none⟩,
    ⟨some 51, .p (.mov (.t 52)), none⟩])
  (.cond (.t 51) (.seq (.reg [⟨some 53, .p (.mov (.t 11)), none⟩,
    ⟨some 6, .p (.mov (.t 53)), none⟩,
    ⟨some 7, .p (.mov (.c (.int .i64 1))), none⟩])
  .ret) (.seq (.reg [⟨some 55, .p (.bin .eql (.t 49) (.c (.int .i64 12))), none⟩,
    ⟨some 54, .p (.mov (.t 55)), none⟩])
  (.cond (.t 54) (.seq (.reg [⟨some 56, .p (.mov (.t 11)), none⟩,
    ⟨some 6, .p (.mov (.t 56)), none⟩,
    ⟨some 7, .p (.mov (.c (.int .i64 2))), none⟩])
  .ret) (.seq (.reg [⟨some 50, .p (.mov (.t 11)), none⟩,
    ⟨some 6, .p (.mov (.t 50)), none⟩,
    ⟨some 7, .p (.mov (.c (.int .i64 0))), none⟩])
  .ret))))))))))))))
def rs55 : List AR := [.tmp 6, .tmp 7]
theorem ok55 : okF Try.prog 55 57 ac55 rs55 = true := by kernel_rfl
/-- slices.reverseRangeOrdered[int] -/
def ac56 : AC := (.seq (.reg [⟨some 8, .p (.mov (.t 1)), none⟩,
    ⟨some 6, .p (.mov (.t 8)), none⟩])
  (.seq (.reg [⟨some 9, .p (.mov (.t 2)), none⟩,
    ⟨some 10, .p (.bin .sub (.t 9) (.c (.int .i64 1))), none⟩,
    ⟨some 7, .p (.mov (.t 10)), none⟩])
  (.block 0 (.loop (.seq (.seq (.reg [⟨some 11, .p (.mov (.t 6)), none⟩,
    ⟨some 12, .p (.mov (.t 7)), none⟩,
    ⟨some 13, .p (.bin .lss (.t 11) (.t 12)), none⟩])
  (.cond (.t 13) .skip (.exit 0)))
  (.block 1 (.seq (.draw 16 [(7, 13), (11, 13), (11, 15), (13, 15), (7, 15)] [⟨some 14, .p (.mov (.t 0)), none⟩,
    ⟨some 15, .p (.mov (.t 6)), none⟩,
    ⟨some 16, .p (.mov (.t 0)), none⟩,
    ⟨some 17, .p (.mov (.t 7)), none⟩,
    ⟨some 18, .p (.mov (.t 0)), none⟩,
    ⟨some 19, .p (.mov (.t 7)), none⟩,
    ⟨some 20, .p (.idxA 1 none (.t 18) (.t 19)), none⟩,
    ⟨some 21, .h (.load false 1 (.t 20)), none⟩,
    ⟨some 22, .p (.mov (.t 0)), none⟩,
    ⟨some 23, .p (.mov (.t 6)), none⟩,
    ⟨some 24, .p (.idxA 1 none (.t 22) (.t 23)), none⟩,
    ⟨some 25, .h (.load false 1 (.t 24)), none⟩,
    ⟨some 26, .p (.idxA 1 none (.t 14) (.t 15)), none⟩,
    ⟨none, .h (.store 1 (.t 26) (.t 21)), none⟩,
    ⟨some 27, .p (.idxA 1 none (.t 16) (.t 17)), none⟩,
    ⟨none, .h (.store 1 (.t 27) (.t 25)), none⟩])
  (.seq (.reg [⟨some 28, .p (.mov (.t 6)), none⟩,
    ⟨some 29, .p (.bin .add (.t 28) (.c (.int .i64 1))), none⟩,
    ⟨some 6, .p (.mov (.t 29)), none⟩])
  (.reg [⟨some 30, .p (.mov (.t 7)), none⟩,
    ⟨some 31, .p (.bin .sub (.t 30) (.c (.int .i64 1))), none⟩,
    ⟨some 7, .p (.mov (.t 31)), none⟩])))))))))
def rs56 : List AR := []
theorem ok56 : okF Try.prog 56 32 ac56 rs56 = true := by kernel_rfl
/-- slices.partialInsertionSortOrdered[int] -/
def ac57 : AC := (.seq (.reg [⟨some 6, .p (.mov (.c (.bool false))), none⟩])
  (.seq (.reg [⟨some 11, .p (.mov (.t 1)), none⟩,
    ⟨some 12, .p (.bin .add (.t 11) (.c (.int .i64 1))), none⟩,
    ⟨some 7, .p (.mov (.t 12)), none⟩])
  (.seq (.seq (.reg [⟨some 8, .p (.mov (.c (.int .i64 0))), none⟩])
  (.block 0 (.loop (.seq (.seq (.reg [⟨some 13, .p (.mov (.t 8)), none⟩,
    ⟨some 14, .p (.bin .lss (.t 13) (.c (.int .i64 5))), none⟩])
  (.cond (.t 14) .skip (.exit 0)))
  (.seq (.block 1 (.seq (.block 2 (.loop (.seq (.seq (.draw 16 [] [⟨some 17, .p (.mov (.t 7)), none⟩,
    ⟨some 18, .p (.mov (.t 2)), none⟩,
    ⟨some 19, .p (.bin .lss (.t 17) (.t 18)), none⟩,
    ⟨some 20, .p (.mov (.t 19)), none⟩,
    ⟨some 21, .p (.mov (.t 0)), (some (20, true))⟩,
    ⟨some 22, .p (.mov (.t 7)), (some (20, true))⟩,
    ⟨some 23, .p (.idxA 1 none (.t 21) (.t 22)), (some (20, true))⟩,
    ⟨some 24, .h (.load false 1 (.t 23)), (some (20, true))⟩,
    ⟨some 25, .p (.mov (.t 0)), (some (20, true))⟩,
    ⟨some 26, .p (.mov (.t 7)), (some (20, true))⟩,
    ⟨some 27, .p (.bin .sub (.t 26) (.c (.int .i64 1))), (some (20, true))⟩,
    ⟨some 28, .p (.idxA 1 none (.t 25) (.t 27)), (some (20, true))⟩,
    ⟨some 29, .h (.load false 1 (.t 28)), (some (20, true))⟩,
    ⟨some 30, .call 58 [(.t 24), (.t 29)], (some (20, true))⟩,
    ⟨some 31, .p (.un .not (.t 30)), (some (20, true))⟩,
    ⟨some 32, .p (.pick (.t 20) (.t 31) (.c (.bool false))), none⟩])
  (.cond (.t 32) .skip (.exit 2)))
  (.block 3 (.reg [⟨some 33, .p (.mov (.t 7)), none⟩,
    ⟨some 34, .p (.bin .add (.t 33) (.c (.int .i64 1))), none⟩,
    ⟨some 7, .p (.mov (.t 34)), none⟩])))))
  (.seq (.seq (.reg [⟨some 35, .p (.mov (.t 7)), none⟩,
    ⟨some 36, .p (.mov (.t 2)), none⟩,
    ⟨some 37, .p (.bin .eql (.t 35) (.t 36)), none⟩])
  (.cond (.t 37) (.seq (.reg [⟨some 6, .p (.mov (.c (.bool true))), none⟩])
  .ret) .skip))
  (.seq (.seq (.reg [⟨some 38, .p (.mov (.t 2)), none⟩,
    ⟨some 39, .p (.mov (.t 1)), none⟩,
    ⟨some 40, .p (.bin .sub (.t 38) (.t 39)), none⟩,
    ⟨some 41, .p (.bin .lss (.t 40) (.c (.int .i64 50))), none⟩])
  (.cond (.t 41) (.seq (.reg [⟨some 6, .p (.mov (.c (.bool false))), none⟩])
  .ret) .skip))
  (.seq (.draw 18 [(9, 15), (13, 15), (13, 17), (15, 17), (9, 17)] [⟨some 42, .p (.mov (.t 0)), none⟩,
    ⟨some 43, .p (.mov (.t 7)), none⟩,
    ⟨some 44, .p (.mov (.t 0)), none⟩,
    ⟨some 45, .p (.mov (.t 7)), none⟩,
    ⟨some 46, .p (.bin .sub (.t 45) (.c (.int .i64 1))), none⟩,
    ⟨some 47, .p (.mov (.t 0)), none⟩,
    ⟨some 48, .p (.mov (.t 7)), none⟩,
    ⟨some 49, .p (.bin .sub (.t 48) (.c (.int .i64 1))), none⟩,
    ⟨some 50, .p (.idxA 1 none (.t 47) (.t 49)), none⟩,
    ⟨some 51, .h (.load false 1 (.t 50)), none⟩,
    ⟨some 52, .p (.mov (.t 0)), none⟩,
    ⟨some 53, .p (.mov (.t 7)), none⟩,
    ⟨some 54, .p (.idxA 1 none (.t 52) (.t 53)), none⟩,
    ⟨some 55, .h (.load false 1 (.t 54)), none⟩,
    ⟨some 56, .p (.idxA 1 none (.t 42) (.t 43)), none⟩,
    ⟨none, .h (.store 1 (.t 56) (.t 51)), none⟩,
    ⟨some 57, .p (.idxA 1 none (.t 44) (.t 46)), none⟩,
    ⟨none, .h (.store 1 (.t 57) (.t 55)), none⟩])
  (.seq (.seq (.reg [⟨some 58, .p (.mov (.t 7)), none⟩,
    ⟨some 59, .p (.mov (.t 1)), none⟩,
    ⟨some 60, .p (.bin .sub (.t 58) (.t 59)), none⟩,
    ⟨some 61, .p (.bin .geq (.t 60) (.c (.int .i64 2))), none⟩])
  (.cond (.t 61) (.seq (.reg [⟨some 62, .p (.mov (.t 7)), none⟩,
    ⟨some 63, .p (.bin .sub (.t 62) (.c (.int .i64 1))), none⟩,
    ⟨some 9, .p (.mov (.t 63)), none⟩])
  (.block 4 (.loop (.seq (.seq (.reg [⟨some 64, .p (.mov (.t 9)), none⟩,
    ⟨some 65, .p (.bin .geq (.t 64) (.c (.int .i64 1))), none⟩])
  (.cond (.t 65) .skip (.exit 4)))
  (.seq (.block 5 (.seq (.seq (.draw 11 [] [⟨some 68, .p (.mov (.t 0)), none⟩,
    ⟨some 69, .p (.mov (.t 9)), none⟩,
    ⟨some 70, .p (.idxA 1 none (.t 68) (.t 69)), none⟩,
    ⟨some 71, .h (.load false 1 (.t 70)), none⟩,
    ⟨some 72, .p (.mov (.t 0)), none⟩,
    ⟨some 73, .p (.mov (.t 9)), none⟩,
    ⟨some 74, .p (.bin .sub (.t 73) (.c (.int .i64 1))), none⟩,
    ⟨some 75, .p (.idxA 1 none (.t 72) (.t 74)), none⟩,
    ⟨some 76, .h (.load false 1 (.t 75)), none⟩,
    ⟨some 77, .call 58 [(.t 71), (.t 76)], none⟩,
    ⟨some 78, .p (.un .not (.t 77)), none⟩])
  (.cond (.t 78) (.exit 4) .skip))
  (.draw 18 [(9, 15), (13, 15), (13, 17), (15, 17), (9, 17)] [⟨some 79, .p (.mov (.t 0)), none⟩,
    ⟨some 80, .p (.mov (.t 9)), none⟩,
    ⟨some 81, .p (.mov (.t 0)), none⟩,
    ⟨some 82, .p (.mov (.t 9)), none⟩,
    ⟨some 83, .p (.bin .sub (.t 82) (.c (.int .i64 1))), none⟩,
    ⟨some 84, .p (.mov (.t 0)), none⟩,
    ⟨some 85, .p (.mov (.t 9)), none⟩,
    ⟨some 86, .p (.bin .sub (.t 85) (.c (.int .i64 1))), none⟩,
    ⟨some 87, .p (.idxA 1 none (.t 84) (.t 86)), none⟩,
    ⟨some 88, .h (.load false 1 (.t 87)), none⟩,
    ⟨some 89, .p (.mov (.t 0)), none⟩,
    ⟨some 90, .p (.mov (.t 9)), none⟩,
    ⟨some 91, .p (.idxA 1 none (.t 89) (.t 90)), none⟩,
    ⟨some 92, .h (.load false 1 (.t 91)), none⟩,
    ⟨some 93, .p (.idxA 1 none (.t 79) (.t 80)), none⟩,
    ⟨none, .h (.store 1 (.t 93) (.t 88)), none⟩,
    ⟨some 94, .p (.idxA 1 none (.t 81) (.t 83)), none⟩,
    ⟨none, .h (.store 1 (.t 94) (.t 92)), none⟩])))
  (.reg [⟨some 66, .p (.mov (.t 9)), none⟩,
    ⟨some 67, .p (.bin .sub (.t 66) (.c (.int .i64 1))), none⟩,
    ⟨some 9, .p (.mov (.t 67)), none⟩])))))) .skip))
  (.seq (.reg [⟨some 95, .p (.mov (.t 2)), none⟩,
    ⟨some 96, .p (.mov (.t 7)), none⟩,
    ⟨some 97, .p (.bin .sub (.t 95) (.t 96)), none⟩,
    ⟨some 98, .p (.bin .geq (.t 97) (.c (.int .i64 2))), none⟩])
  (.cond (.t 98) (.seq (.reg [⟨some 99, .p (.mov (.t 7)), none⟩,
    ⟨some 100, .p (.bin .add (.t 99) (.c (.int .i64 1))), none⟩,
    ⟨some 10, .p (.mov (.t 100)), none⟩])
  (.block 6 (.loop (.seq (.seq (.reg [⟨some 101, .p (.mov (.t 10)), none⟩,
    ⟨some 102, .p (.mov (.t 2)), none⟩,
    ⟨some 103, .p (.bin .lss (.t 101) (.t 102)), none⟩])
  (.cond (.t 103) .skip (.exit 6)))
  (.seq (.block 7 (.seq (.seq (.draw 11 [] [⟨some 106, .p (.mov (.t 0)), none⟩,
    ⟨some 107, .p (.mov (.t 10)), none⟩,
    ⟨some 108, .p (.idxA 1 none (.t 106) (.t 107)), none⟩,
    ⟨some 109, .h (.load false 1 (.t 108)), none⟩,
    ⟨some 110, .p (.mov (.t 0)), none⟩,
    ⟨some 111, .p (.mov (.t 10)), none⟩,
    ⟨some 112, .p (.bin .sub (.t 111) (.c (.int .i64 1))), none⟩,
    ⟨some 113, .p (.idxA 1 none (.t 110) (.t 112)), none⟩,
    ⟨some 114, .h (.load false 1 (.t 113)), none⟩,
    ⟨some 115, .call 58 [(.t 109), (.t 114)], none⟩,
    ⟨some 116, .p (.un .not (.t 115)), none⟩])
  (.cond (.t 116) (.exit 6) .skip))
  (.draw 18 [(9, 15), (13, 15), (13, 17), (15, 17), (9, 17)] [⟨some 117, .p (.mov (.t 0)), none⟩,
    ⟨some 118, .p (.mov (.t 10)), none⟩,
    ⟨some 119, .p (.mov (.t 0)), none⟩,
    ⟨some 120, .p (.mov (.t 10)), none⟩,
    ⟨some 121, .p (.bin .sub (.t 120) (.c (.int .i64 1))), none⟩,
    ⟨some 122, .p (.mov (.t 0)), none⟩,
    ⟨some 123, .p (.mov (.t 10)), none⟩,
    ⟨some 124, .p (.bin .sub (.t 123) (.c (.int .i64 1))), none⟩,
    ⟨some 125, .p (.idxA 1 none (.t 122) (.t 124)), none⟩,
    ⟨some 126, .h (.load false 1 (.t 125)), none⟩,
    ⟨some 127, .p (.mov (.t 0)), none⟩,
    ⟨some 128, .p (.mov (.t 10)), none⟩,
    ⟨some 129, .p (.idxA 1 none (.t 127) (.t 128)), none⟩,
    ⟨some 130, .h (.load false 1 (.t 129)), none⟩,
    ⟨some 131, .p (.idxA 1 none (.t 117) (.t 118)), none⟩,
    ⟨none, .h (.store 1 (.t 131) (.t 126)), none⟩,
    ⟨some 132, .p (.idxA 1 none (.t 119) (.t 121)), none⟩,
    ⟨none, .h (.store 1 (.t 132) (.t 130)), none⟩])))
  (.reg [⟨some 104, .p (.mov (.t 10)), none⟩,
    ⟨some 105, .p (.bin .add (.t 104) (.c (.int .i64 1))), none⟩,
    ⟨some 10, .p (.mov (.t 105)), none⟩])))))) .skip))))))))
  (.reg [⟨some 15, .p (.mov (.t 8)), none⟩,
    ⟨some 16, .p (.bin .add (.t 15) (.c (.int .i64 1))), none⟩,
    ⟨some 8, .p (.mov (.t 16)), none⟩]))))))
  (.seq (.reg [⟨some 6, .p (.mov (.c (.bool false))), none⟩])
  .ret))))
def rs57 : List AR := [.tmp 6]
theorem ok57 : okF Try.prog 57 133 ac57 rs57 = true := by kernel_rfl
/-- cmp.Less[int] -/
def ac58 : AC := (.seq (.reg [⟨some 4, .p (.mov (.c (.bool false))), none⟩])
  (.seq (.reg [⟨some 5, .p (.mov (.t 0)), none⟩,
    ⟨some 6, .call 68 [(.t 5)], none⟩,
    ⟨some 7, .p (.mov (.t 6)), none⟩,
    ⟨some 8, .p (.mov (.t 1)), (some (7, true))⟩,
    ⟨some 9, .call 68 [(.t 8)], (some (7, true))⟩,
    ⟨some 10, .p (.un .not (.t 9)), (some (7, true))⟩,
    ⟨some 11, .p (.pick (.t 7) (.t 10) (.c (.bool false))), none⟩,
    ⟨some 12, .p (.mov (.t 11)), none⟩,
    ⟨some 13, .p (.mov (.t 0)), (some (12, false))⟩,
    ⟨some 14, .p (.mov (.t 1)), (some (12, false))⟩,
    ⟨some 15, .p (.bin .lss (.t 13) (.t 14)), (some (12, false))⟩,
    ⟨some 16, .p (.pick (.t 12) (.c (.bool true)) (.t 15)), none⟩,
    ⟨some 4, .p (.mov (.t 16)), none⟩])
  .ret))
def rs58 : List AR := [.tmp 4]
theorem ok58 : okF Try.prog 58 17 ac58 rs58 = true := by kernel_rfl
/-- slices.partitionEqualOrdered[int] -/
def ac59 : AC := (.seq (.reg [⟨some 8, .p (.mov (.c (.int .i64 0))), none⟩])
  (.seq (.draw 16 [(7, 13), (11, 13), (11, 15), (13, 15), (7, 15)] [⟨some 11, .p (.mov (.t 0)), none⟩,
    ⟨some 12, .p (.mov (.t 1)), none⟩,
    ⟨some 13, .p (.mov (.t 0)), none⟩,
    ⟨some 14, .p (.mov (.t 3)), none⟩,
    ⟨some 15, .p (.mov (.t 0)), none⟩,
    ⟨some 16, .p (.mov (.t 3)), none⟩,
    ⟨some 17, .p (.idxA 1 none (.t 15) (.t 16)), none⟩,
    ⟨some 18, .h (.load false 1 (.t 17)), none⟩,
    ⟨some 19, .p (.mov (.t 0)), none⟩,
    ⟨some 20, .p (.mov (.t 1)), none⟩,
    ⟨some 21, .p (.idxA 1 none (.t 19) (.t 20)), none⟩,
    ⟨some 22, .h (.load false 1 (.t 21)), none⟩,
    ⟨some 23, .p (.idxA 1 none (.t 11) (.t 12)), none⟩,
    ⟨none, .h (.store 1 (.t 23) (.t 18)), none⟩,
    ⟨some 24, .p (.idxA 1 none (.t 13) (.t 14)), none⟩,
    ⟨none, .h (.store 1 (.t 24) (.t 22)), none⟩])
  (.seq (.reg [⟨some 25, .p (.mov (.t 1)), none⟩,
    ⟨some 26, .p (.bin .add (.t 25) (.c (.int .i64 1))), none⟩,
    ⟨some 27, .p (.mov (.t 2)), none⟩,
    ⟨some 28, .p (.bin .sub (.t 27) (.c (.int .i64 1))), none⟩,
    ⟨some 9, .p (.mov (.t 26)), none⟩,
    ⟨some 10, .p (.mov (.t 28)), none⟩])
  (.seq (.block 0 (.loop (.block 1 (.seq (.block 2 (.loop (.seq (.seq (.draw 15 [] [⟨some 29, .p (.mov (.t 9)), none⟩,
    ⟨some 30, .p (.mov (.t 10)), none⟩,
    ⟨some 31, .p (.bin .leq (.t 29) (.t 30)), none⟩,
    ⟨some 32, .p (.mov (.t 31)), none⟩,
    ⟨some 33, .p (.mov (.t 0)), (some (32, true))⟩,
    ⟨some 34, .p (.mov (.t 1)), (some (32, true))⟩,
    ⟨some 35, .p (.idxA 1 none (.t 33) (.t 34)), (some (32, true))⟩,
    ⟨some 36, .h (.load false 1 (.t 35)), (some (32, true))⟩,
    ⟨some 37, .p (.mov (.t 0)), (some (32, true))⟩,
    ⟨some 38, .p (.mov (.t 9)), (some (32, true))⟩,
    ⟨some 39, .p (.idxA 1 none (.t 37) (.t 38)), (some (32, true))⟩,
    ⟨some 40, .h (.load false 1 (.t 39)), (some (32, true))⟩,
    ⟨some 41, .call 58 [(.t 36), (.t 40)], (some (32, true))⟩,
    ⟨some 42, .p (.un .not (.t 41)), (some (32, true))⟩,
    ⟨some 43, .p (.pick (.t 32) (.t 42) (.c (.bool false))), none⟩])
  (.cond (.t 43) .skip (.exit 2)))
  (.block 3 (.reg [⟨some 44, .p (.mov (.t 9)), none⟩,
    ⟨some 45, .p (.bin .add (.t 44) (.c (.int .i64 1))), none⟩,
    ⟨some 9, .p (.mov (.t 45)), none⟩])))))
  (.seq (.block 4 (.loop (.seq (.seq (.draw 14 [] [⟨some 46, .p (.mov (.t 9)), none⟩,
    ⟨some 47, .p (.mov (.t 10)), none⟩,
    ⟨some 48, .p (.bin .leq (.t 46) (.t 47)), none⟩,
    ⟨some 49, .p (.mov (.t 48)), none⟩,
    ⟨some 50, .p (.mov (.t 0)), (some (49, true))⟩,
    ⟨some 51, .p (.mov (.t 1)), (some (49, true))⟩,
    ⟨some 52, .p (.idxA 1 none (.t 50) (.t 51)), (some (49, true))⟩,
    ⟨some 53, .h (.load false 1 (.t 52)), (some (49, true))⟩,
    ⟨some 54, .p (.mov (.t 0)), (some (49, true))⟩,
    ⟨some 55, .p (.mov (.t 10)), (some (49, true))⟩,
    ⟨some 56, .p (.idxA 1 none (.t 54) (.t 55)), (some (49, true))⟩,
    ⟨some 57, .h (.load false 1 (.t 56)), (some (49, true))⟩,
    ⟨some 58, .call 58 [(.t 53), (.t 57)], (some (49, true))⟩,
    ⟨some 59, .p (.pick (.t 49) (.t 58) (.c (.bool false))), none⟩])
  (.cond (.t 59) .skip (.exit 4)))
  (.block 5 (.reg [⟨some 60, .p (.mov (.t 10)), none⟩,
    ⟨some 61, .p (.bin .sub (.t 60) (.c (.int .i64 1))), none⟩,
    ⟨some 10, .p (.mov (.t 61)), none⟩])))))
  (.seq (.seq (.reg [⟨some 62, .p (.mov (.t 9)), none⟩,
    ⟨some 63, .p (.mov (.t 10)), none⟩,
    ⟨some 64, .p (.bin .gtr (.t 62) (.t 63)), none⟩])
  (.cond (.t 64) (.exit 0) .skip))
  (.seq (.draw 16 [(7, 13), (11, 13), (11, 15), (13, 15), (7, 15)] [⟨some 65, .p (.mov (.t 0)), none⟩,
    ⟨some 66, .p (.mov (.t 9)), none⟩,
    ⟨some 67, .p (.mov (.t 0)), none⟩,
    ⟨some 68, .p (.mov (.t 10)), none⟩,
    ⟨some 69, .p (.mov (.t 0)), none⟩,
    ⟨some 70, .p (.mov (.t 10)), none⟩,
    ⟨some 71, .p (.idxA 1 none (.t 69) (.t 70)), none⟩,
    ⟨some 72, .h (.load false 1 (.t 71)), none⟩,
    ⟨some 73, .p (.mov (.t 0)), none⟩,
    ⟨some 74, .p (.mov (.t 9)), none⟩,
    ⟨some 75, .p (.idxA 1 none (.t 73) (.t 74)), none⟩,
    ⟨some 76, .h (.load false 1 (.t 75)), none⟩,
    ⟨some 77, .p (.idxA 1 none (.t 65) (.t 66)), none⟩,
    ⟨none, .h (.store 1 (.t 77) (.t 72)), none⟩,
    ⟨some 78, .p (.idxA 1 none (.t 67) (.t 68)), none⟩,
    ⟨none, .h (.store 1 (.t 78) (.t 76)), none⟩])
  (.seq (.reg [⟨some 79, .p (.mov (.t 9)), none⟩,
    ⟨some 80, .p (.bin .add (.t 79) (.c (.int .i64 1))), none⟩,
    ⟨some 9, .p (.mov (.t 80)), none⟩])
  (.reg [⟨some 81, .p (.mov (.t 10)), none⟩,
    ⟨some 82, .p (.bin .sub (.t 81) (.c (.int .i64 1))), none⟩,
    ⟨some 10, .p (.mov (.t 82)), none⟩])))))))))
  (.seq (.reg [⟨some 83, .p (.mov (.t 9)), none⟩,
    ⟨some 8, .p (.mov (.t 83)), none⟩])
  .ret)))))
def rs59 : List AR := [.tmp 8]
theorem ok59 : okF Try.prog 59 84 ac59 rs59 = true := by kernel_rfl
/-- slices.partitionOrdered[int] -/
def ac60 : AC := (.seq (.reg [⟨some 8, .p (.mov (.c (.int .i64 0))), none⟩,
    ⟨some 9, .p (.mov (.c (.bool false))), none⟩])
  (.seq (.draw 16 [(7, 13), (11, 13), (11, 15), (13, 15), (7, 15)] [⟨some 12, .p (.mov (.t 0)), none⟩,
    ⟨some 13, .p (.mov (.t 1)), none⟩,
    ⟨some 14, .p (.mov (.t 0)), none⟩,
    ⟨some 15, .p (.mov (.t 3)), none⟩,
    ⟨some 16, .p (.mov (.t 0)), none⟩,
    ⟨some 17, .p (.mov (.t 3)), none⟩,
    ⟨some 18, .p (.idxA 1 none (.t 16) (.t 17)), none⟩,
    ⟨some 19, .h (.load false 1 (.t 18)), none⟩,
    ⟨some 20, .p (.mov (.t 0)), none⟩,
    ⟨some 21, .p (.mov (.t 1)), none⟩,
    ⟨some 22, .p (.idxA 1 none (.t 20) (.t 21)), none⟩,
    ⟨some 23, .h (.load false 1 (.t 22)), none⟩,
    ⟨some 24, .p (.idxA 1 none (.t 12) (.t 13)), none⟩,
    ⟨none, .h (.store 1 (.t 24) (.t 19)), none⟩,
    ⟨some 25, .p (.idxA 1 none (.t 14) (.t 15)), none⟩,
    ⟨none, .h (.store 1 (.t 25) (.t 23)), none⟩])
  (.seq (.reg [⟨some 26, .p (.mov (.t 1)), none⟩,
    ⟨some 27, .p (.bin .add (.t 26) (.c (.int .i64 1))), none⟩,
    ⟨some 28, .p (.mov (.t 2)), none⟩,
    ⟨some 29, .p (.bin .sub (.t 28) (.c (.int .i64 1))), none⟩,
    ⟨some 10, .p (.mov (.t 27)), none⟩,
    ⟨some 11, .p (.mov (.t 29)), none⟩])
  (.seq (.block 0 (.loop (.seq (.seq (.draw 14 [] [⟨some 30, .p (.mov (.t 10)), none⟩,
    ⟨some 31, .p (.mov (.t 11)), none⟩,
    ⟨some 32, .p (.bin .leq (.t 30) (.t 31)), none⟩,
    ⟨some 33, .p (.mov (.t 32)), none⟩,
    ⟨some 34, .p (.mov (.t 0)), (some (33, true))⟩,
    ⟨some 35, .p (.mov (.t 10)), (some (33, true))⟩,
    ⟨some 36, .p (.idxA 1 none (.t 34) (.t 35)), (some (33, true))⟩,
    ⟨some 37, .h (.load false 1 (.t 36)), (some (33, true))⟩,
    ⟨some 38, .p (.mov (.t 0)), (some (33, true))⟩,
    ⟨some 39, .p (.mov (.t 1)), (some (33, true))⟩,
    ⟨some 40, .p (.idxA 1 none (.t 38) (.t 39)), (some (33, true))⟩,
    ⟨some 41, .h (.load false 1 (.t 40)), (some (33, true))⟩,
    ⟨some 42, .call 58 [(.t 37), (.t 41)], (some (33, true))⟩,
    ⟨some 43, .p (.pick (.t 33) (.t 42) (.c (.bool false))), none⟩])
  (.cond (.t 43) .skip (.exit 0)))
  (.block 1 (.reg [⟨some 44, .p (.mov (.t 10)), none⟩,
    ⟨some 45, .p (.bin .add (.t 44) (.c (.int .i64 1))), none⟩,
    ⟨some 10, .p (.mov (.t 45)), none⟩])))))
  (.seq (.block 2 (.loop (.seq (.seq (.draw 15 [] [⟨some 46, .p (.mov (.t 10)), none⟩,
    ⟨some 47, .p (.mov (.t 11)), none⟩,
    ⟨some 48, .p (.bin .leq (.t 46) (.t 47)), none⟩,
    ⟨some 49, .p (.mov (.t 48)), none⟩,
    ⟨some 50, .p (.mov (.t 0)), (some (49, true))⟩,
    ⟨some 51, .p (.mov (.t 11)), (some (49, true))⟩,
    ⟨some 52, .p (.idxA 1 none (.t 50) (.t 51)), (some (49, true))⟩,
    ⟨some 53, .h (.load false 1 (.t 52)), (some (49, true))⟩,
    ⟨some 54, .p (.mov (.t 0)), (some (49, true))⟩,
    ⟨some 55, .p (.mov (.t 1)), (some (49, true))⟩,
    ⟨some 56, .p (.idxA 1 none (.t 54) (.t 55)), (some (49, true))⟩,
    ⟨some 57, .h (.load false 1 (.t 56)), (some (49, true))⟩,
    ⟨some 58, .call 58 [(.t 53), (.t 57)], (some (49, true))⟩,
    ⟨some 59, .p (.un .not (.t 58)), (some (49, true))⟩,
    ⟨some 60, .p (.pick (.t 49) (.t 59) (.c (.bool false))), none⟩])
  (.cond (.t 60) .skip (.exit 2)))
  (.block 3 (.reg [⟨some 61, .p (.mov (.t 11)), none⟩,
    ⟨some 62, .p (.bin .sub (.t 61) (.c (.int .i64 1))), none⟩,
    ⟨some 11, .p (.mov (.t 62)), none⟩])))))
  (.seq (.seq (.reg [⟨some 63, .p (.mov (.t 10)), none⟩,
    ⟨some 64, .p (.mov (.t 11)), none⟩,
    ⟨some 65, .p (.bin .gtr (.t 63) (.t 64)), none⟩])
  (.cond (.t 65) (.seq (.draw 16 [(7, 13), (11, 13), (11, 15), (13, 15), (7, 15)] [⟨some 66, .p (.mov (.t 0)), none⟩,
    ⟨some 67, .p (.mov (.t 11)), none⟩,
    ⟨some 68, .p (.mov (.t 0)), none⟩,
    ⟨some 69, .p (.mov (.t 1)), none⟩,
    ⟨some 70, .p (.mov (.t 0)), none⟩,
    ⟨some 71, .p (.mov (.t 1)), none⟩,
    ⟨some 72, .p (.idxA 1 none (.t 70) (.t 71)), none⟩,
    ⟨some 73, .h (.load false 1 (.t 72)), none⟩,
    ⟨some 74, .p (.mov (.t 0)), none⟩,
    ⟨some 75, .p (.mov (.t 11)), none⟩,
    ⟨some 76, .p (.idxA 1 none (.t 74) (.t 75)), none⟩,
    ⟨some 77, .h (.load false 1 (.t 76)), none⟩,
    ⟨some 78, .p (.idxA 1 none (.t 66) (.t 67)), none⟩,
    ⟨none, .h (.store 1 (.t 78) (.t 73)), none⟩,
    ⟨some 79, .p (.idxA 1 none (.t 68) (.t 69)), none⟩,
    ⟨none, .h (.store 1 (.t 79) (.t 77)), none⟩])
  (.seq (.reg [⟨some 80, .p (.mov (.t 11)), none⟩,
    ⟨some 8, .p (.mov (.t 80)), none⟩,
    ⟨some 9, .p (.mov (.c (.bool true))), none⟩])
  .ret)) .skip))
  (.seq (.draw 16 [(7, 13), (11, 13), (11, 15), (13, 15), (7, 15)] [⟨some 81, .p (.mov (.t 0)), none⟩,
    ⟨some 82, .p (.mov (.t 10)), none⟩,
    ⟨some 83, .p (.mov (.t 0)), none⟩,
    ⟨some 84, .p (.mov (.t 11)), none⟩,
    ⟨some 85, .p (.mov (.t 0)), none⟩,
    ⟨some 86, .p (.mov (.t 11)), none⟩,
    ⟨some 87, .p (.idxA 1 none (.t 85) (.t 86)), none⟩,
    ⟨some 88, .h (.load false 1 (.t 87)), none⟩,
    ⟨some 89, .p (.mov (.t 0)), none⟩,
    ⟨some 90, .p (.mov (.t 10)), none⟩,
    ⟨some 91, .p (.idxA 1 none (.t 89) (.t 90)), none⟩,
    ⟨some 92, .h (.load false 1 (.t 91)), none⟩,
    ⟨some 93, .p (.idxA 1 none (.t 81) (.t 82)), none⟩,
    ⟨none, .h (.store 1 (.t 93) (.t 88)), none⟩,
    ⟨some 94, .p (.idxA 1 none (.t 83) (.t 84)), none⟩,
    ⟨none, .h (.store 1 (.t 94) (.t 92)), none⟩])
  (.seq (.reg [⟨some 95, .p (.mov (.t 10)), none⟩,
    ⟨some 96, .p (.bin .add (.t 95) (.c (.int .i64 1))), none⟩,
    ⟨some 10, .p (.mov (.t 96)), none⟩])
  (.seq (.reg [⟨some 97, .p (.mov (.t 11)), none⟩,
    ⟨some 98, .p (.bin .sub (.t 97) (.c (.int .i64 1))), none⟩,
    ⟨some 11, .p (.mov (.t 98)), none⟩])
  (.seq (.block 4 (.loop (.block 5 (.seq (.block 6 (.loop (.seq (.seq (.draw 14 [] [⟨some 99, .p (.mov (.t 10)), none⟩,
    ⟨some 100, .p (.mov (.t 11)), none⟩,
    ⟨some 101, .p (.bin .leq (.t 99) (.t 100)), none⟩,
    ⟨some 102, .p (.mov (.t 101)), none⟩,
    ⟨some 103, .p (.mov (.t 0)), (some (102, true))⟩,
    ⟨some 104, .p (.mov (.t 10)), (some (102, true))⟩,
    ⟨some 105, .p (.idxA 1 none (.t 103) (.t 104)), (some (102, true))⟩,
    ⟨some 106, .h (.load false 1 (.t 105)), (some (102, true))⟩,
    ⟨some 107, .p (.mov (.t 0)), (some (102, true))⟩,
    ⟨some 108, .p (.mov (.t 1)), (some (102, true))⟩,
    ⟨some 109, .p (.idxA 1 none (.t 107) (.t 108)), (some (102, true))⟩,
    ⟨some 110, .h (.load false 1 (.t 109)), (some (102, true))⟩,
    ⟨some 111, .call 58 [(.t 106), (.t 110)], (some (102, true))⟩,
    ⟨some 112, .p (.pick (.t 102) (.t 111) (.c (.bool false))), none⟩])
  (.cond (.t 112) .skip (.exit 6)))
  (.block 7 (.reg [⟨some 113, .p (.mov (.t 10)), none⟩,
    ⟨some 114, .p (.bin .add (.t 113) (.c (.int .i64 1))), none⟩,
    ⟨some 10, .p (.mov (.t 114)), none⟩])))))
  (.seq (.block 8 (.loop (.seq (.seq (.draw 15 [] [⟨some 115, .p (.mov (.t 10)), none⟩,
    ⟨some 116, .p (.mov (.t 11)), none⟩,
    ⟨some 117, .p (.bin .leq (.t 115) (.t 116)), none⟩,
    ⟨some 118, .p (.mov (.t 117)), none⟩,
    ⟨some 119, .p (.mov (.t 0)), (some (118, true))⟩,
    ⟨some 120, .p (.mov (.t 11)), (some (118, true))⟩,
    ⟨some 121, .p (.idxA 1 none (.t 119) (.t 120)), (some (118, true))⟩,
    ⟨some 122, .h (.load false 1 (.t 121)), (some (118, true))⟩,
    ⟨some 123, .p (.mov (.t 0)), (some (118, true))⟩,
    ⟨some 124, .p (.mov (.t 1)), (some (118, true))⟩,
    ⟨some 125, .p (.idxA 1 none (.t 123) (.t 124)), (some (118, true))⟩,
    ⟨some 126, .h (.load false 1 (.t 125)), (some (118, true))⟩,
    ⟨some 127, .call 58 [(.t 122), (.t 126)], (some (118, true))⟩,
    ⟨some 128, .p (.un .not (.t 127)), (some (118, true))⟩,
    ⟨some 129, .p (.pick (.t 118) (.t 128) (.c (.bool false))), none⟩])
  (.cond (.t 129) .skip (.exit 8)))
  (.block 9 (.reg [⟨some 130, .p (.mov (.t 11)), none⟩,
    ⟨some 131, .p (.bin .sub (.t 130) (.c (.int .i64 1))), none⟩,
    ⟨some 11, .p (.mov (.t 131)), none⟩])))))
  (.seq (.seq (.reg [⟨some 132, .p (.mov (.t 10)), none⟩,
    ⟨some 133, .p (.mov (.t 11)), none⟩,
    ⟨some 134, .p (.bin .gtr (.t 132) (.t 133)), none⟩])
  (.cond (.t 134) (.exit 4) .skip))
  (.seq (.draw 16 [(7, 13), (11, 13), (11, 15), (13, 15), (7, 15)] [⟨some 135, .p (.mov (.t 0)), none⟩,
    ⟨some 136, .p (.mov (.t 10)), none⟩,
    ⟨some 137, .p (.mov (.t 0)), none⟩,
    ⟨some 138, .p (.mov (.t 11)), none⟩,
    ⟨some 139, .p (.mov (.t 0)), none⟩,
    ⟨some 140, .p (.mov (.t 11)), none⟩,
    ⟨some 141, .p (.idxA 1 none (.t 139) (.t 140)), none⟩,
    ⟨some 142, .h (.load false 1 (.t 141)), none⟩,
    ⟨some 143, .p (.mov (.t 0)), none⟩,
    ⟨some 144, .p (.mov (.t 10)), none⟩,
    ⟨some 145, .p (.idxA 1 none (.t 143) (.t 144)), none⟩,
    ⟨some 146, .h (.load false 1 (.t 145)), none⟩,
    ⟨some 147, .p (.idxA 1 none (.t 135) (.t 136)), none⟩,
    ⟨none, .h (.store 1 (.t 147) (.t 142)), none⟩,
    ⟨some 148, .p (.idxA 1 none (.t 137) (.t 138)), none⟩,
    ⟨none, .h (.store 1 (.t 148) (.t 146)), none⟩])
  (.seq (.reg [⟨some 149, .p (.mov (.t 10)), none⟩,
    ⟨some 150, .p (.bin .add (.t 149) (.c (.int .i64 1))), none⟩,
    ⟨some 10, .p (.mov (.t 150)), none⟩])
  (.reg [⟨some 151, .p (.mov (.t 11)), none⟩,
    ⟨some 152, .p (.bin .sub (.t 151) (.c (.int .i64 1))), none⟩,
    ⟨some 11, .p (.mov (.t 152)), none⟩])))))))))
  (.seq (.draw 16 [(7, 13), (11, 13), (11, 15), (13, 15), (7, 15)] [⟨some 153, .p (.mov (.t 0)), none⟩,
    ⟨some 154, .p (.mov (.t 11)), none⟩,
    ⟨some 155, .p (.mov (.t 0)), none⟩,
    ⟨some 156, .p (.mov (.t 1)), none⟩,
    ⟨some 157, .p (.mov (.t 0)), none⟩,
    ⟨some 158, .p (.mov (.t 1)), none⟩,
    ⟨some 159, .p (.idxA 1 none (.t 157) (.t 158)), none⟩,
    ⟨some 160, .h (.load false 1 (.t 159)), none⟩,
    ⟨some 161, .p (.mov (.t 0)), none⟩,
    ⟨some 162, .p (.mov (.t 11)), none⟩,
    ⟨some 163, .p (.idxA 1 none (.t 161) (.t 162)), none⟩,
    ⟨some 164, .h (.load false 1 (.t 163)), none⟩,
    ⟨some 165, .p (.idxA 1 none (.t 153) (.t 154)), none⟩,
    ⟨none, .h (.store 1 (.t 165) (.t 160)), none⟩,
    ⟨some 166, .p (.idxA 1 none (.t 155) (.t 156)), none⟩,
    ⟨none, .h (.store 1 (.t 166) (.t 164)), none⟩])
  (.seq (.reg [⟨some 167, .p (.mov (.t 11)), none⟩,
    ⟨some 8, .p (.mov (.t 167)), none⟩,
    ⟨some 9, .p (.mov (.c (.bool false))), none⟩])
  .ret))))))))))))
def rs60 : List AR := [.tmp 8, .tmp 9]
theorem ok60 : okF Try.prog 60 168 ac60 rs60 = true := by kernel_rfl
/-- math/bits.Len32 -/
def ac61 : AC := (.seq (.reg [⟨some 2, .p (.mov (.c (.int .i64 0))), none⟩])
  (.seq (.seq (.reg [⟨some 3, .p (.mov (.t 0)), none⟩,
    ⟨some 4, .p (.binw .geq (.t 3) (.c (.int .u32 65536))), none⟩])
  (.cond (.t 4) (.seq (.reg [⟨some 5, .p (.mov (.t 0)), none⟩,
    ⟨some 6, .p (.binw .shr (.t 5) (.c (.int .u64 16))), none⟩,
    ⟨some 0, .p (.mov (.t 6)), none⟩])
  (.reg [⟨some 2, .p (.mov (.c (.int .i64 16))), none⟩])) .skip))
  (.seq (.seq (.reg [⟨some 7, .p (.mov (.t 0)), none⟩,
    ⟨some 8, .p (.binw .geq (.t 7) (.c (.int .u32 256))), none⟩])
  (.cond (.t 8) (.seq (.reg [⟨some 9, .p (.mov (.t 0)), none⟩,
    ⟨some 10, .p (.binw .shr (.t 9) (.c (.int .u64 8))), none⟩,
    ⟨some 0, .p (.mov (.t 10)), none⟩])
  (.reg [⟨some 11, .p (.mov (.t 2)), none⟩,
    ⟨some 12, .p (.bin .add (.t 11) (.c (.int .i64 8))), none⟩,
    ⟨some 2, .p (.mov (.t 12)), none⟩])) .skip))
  (.seq (.reg [⟨some 13, .p (.mov (.t 2)), none⟩,
    ⟨some 14, .p (.mov (.t 0)), none⟩,
    ⟨some 15, .p (.convw .u8 (.t 14)), none⟩,
    ⟨some 16, .v (.sidx (.c (.str ⟨#[0, 1, 2, 2, 3, 3, 3, 3, 4, 4, 4, 4, 4, 4, 4, 4, 5, 5, 5, 5, 5, 5, 5, 5, 5, 5, 5, 5, 5, 5, 5, 5, 6, 6, 6, 6, 6, 6, 6, 6, 6, 6, 6, 6, 6, 6, 6, 6, 6, 6, 6, 6, 6, 6, 6, 6, 6, 6, 6, 6, 6, 6, 6, 6, 7, 7, 7, 7, 7, 7, 7, 7, 7, 7, 7, 7, 7, 7, 7, 7, 7, 7, 7, 7, 7, 7, 7, 7, 7, 7, 7, 7, 7, 7, 7, 7, 7, 7, 7, 7, 7, 7, 7, 7, 7, 7, 7, 7, 7, 7, 7, 7, 7, 7, 7, 7, 7, 7, 7, 7, 7, 7, 7, 7, 7, 7, 7, 7, 8, 8, 8, 8, 8, 8, 8, 8, 8, 8, 8, 8, 8, 8, 8, 8, 8, 8, 8, 8, 8, 8, 8, 8, 8, 8, 8, 8, 8, 8, 8, 8, 8, 8, 8, 8, 8, 8, 8, 8, 8, 8, 8, 8, 8, 8, 8, 8, 8, 8, 8, 8, 8, 8, 8, 8, 8, 8, 8, 8, 8, 8, 8, 8, 8, 8, 8, 8, 8, 8, 8, 8, 8, 8, 8, 8, 8, 8, 8, 8, 8, 8, 8, 8, 8, 8, 8, 8, 8, 8, 8, 8, 8, 8, 8, 8, 8, 8, 8, 8, 8, 8, 8, 8, 8, 8, 8, 8, 8, 8, 8, 8, 8, 8, 8, 8, 8, 8, 8, 8, 8, 8, 8, 8, 8, 8, 8, 8]⟩)) (.t 15)), none⟩,
    ⟨some 17, .p (.conv .i64 (.t 16)), none⟩,
    ⟨some 18, .p (.bin .add (.t 13) (.t 17)), none⟩,
    ⟨some 2, .p (.mov (.t 18)), none⟩])
  .ret))))
def rs61 : List AR := [.tmp 2]
theorem ok61 : okF Try.prog 61 19 ac61 rs61 = true := by kernel_rfl
/-- math/bits.Len64 -/
def ac62 : AC := (.seq (.reg [⟨some 2, .p (.mov (.c (.int .i64 0))), none⟩])
  (.seq (.seq (.reg [⟨some 3, .p (.mov (.t 0)), none⟩,
    ⟨some 4, .p (.binw .geq (.t 3) (.c (.int .u64 4294967296))), none⟩])
  (.cond (.t 4) (.seq (.reg [⟨some 5, .p (.mov (.t 0)), none⟩,
    ⟨some 6, .p (.binw .shr (.t 5) (.c (.int .u64 32))), none⟩,
    ⟨some 0, .p (.mov (.t 6)), none⟩])
  (.reg [⟨some 2, .p (.mov (.c (.int .i64 32))), none⟩])) .skip))
  (.seq (.seq (.reg [⟨some 7, .p (.mov (.t 0)), none⟩,
    ⟨some 8, .p (.binw .geq (.t 7) (.c (.int .u64 65536))), none⟩])
  (.cond (.t 8) (.seq (.reg [⟨some 9, .p (.mov (.t 0)), none⟩,
    ⟨some 10, .p (.binw .shr (.t 9) (.c (.int .u64 16))), none⟩,
    ⟨some 0, .p (.mov (.t 10)), none⟩])
  (.reg [⟨some 11, .p (.mov (.t 2)), none⟩,
    ⟨some 12, .p (.bin .add (.t 11) (.c (.int .i64 16))), none⟩,
    ⟨some 2, .p (.mov (.t 12)), none⟩])) .skip))
  (.seq (.seq (.reg [⟨some 13, .p (.mov (.t 0)), none⟩,
    ⟨some 14, .p (.binw .geq (.t 13) (.c (.int .u64 256))), none⟩])
  (.cond (.t 14) (.seq (.reg [⟨some 15, .p (.mov (.t 0)), none⟩,
    ⟨some 16, .p (.binw .shr (.t 15) (.c (.int .u64 8))), none⟩,
    ⟨some 0, .p (.mov (.t 16)), none⟩])
  (.reg [⟨some 17, .p (.mov (.t 2)), none⟩,
    ⟨some 18, .p (.bin .add (.t 17) (.c (.int .i64 8))), none⟩,
    ⟨some 2, .p (.mov (.t 18)), none⟩])) .skip))
  (.seq (.reg [⟨some 19, .p (.mov (.t 2)), none⟩,
    ⟨some 20, .p (.mov (.t 0)), none⟩,
    ⟨some 21, .p (.convw .u8 (.t 20)), none⟩,
    ⟨some 22, .v (.sidx (.c (.str ⟨#[0, 1, 2, 2, 3, 3, 3, 3, 4, 4, 4, 4, 4, 4, 4, 4, 5, 5, 5, 5, 5, 5, 5, 5, 5, 5, 5, 5, 5, 5, 5, 5, 6, 6, 6, 6, 6, 6, 6, 6, 6, 6, 6, 6, 6, 6, 6, 6, 6, 6, 6, 6, 6, 6, 6, 6, 6, 6, 6, 6, 6, 6, 6, 6, 7, 7, 7, 7, 7, 7, 7, 7, 7, 7, 7, 7, 7, 7, 7, 7, 7, 7, 7, 7, 7, 7, 7, 7, 7, 7, 7, 7, 7, 7, 7, 7, 7, 7, 7, 7, 7, 7, 7, 7, 7, 7, 7, 7, 7, 7, 7, 7, 7, 7, 7, 7, 7, 7, 7, 7, 7, 7, 7, 7, 7, 7, 7, 7, 8, 8, 8, 8, 8, 8, 8, 8, 8, 8, 8, 8, 8, 8, 8, 8, 8, 8, 8, 8, 8, 8, 8, 8, 8, 8, 8, 8, 8, 8, 8, 8, 8, 8, 8, 8, 8, 8, 8, 8, 8, 8, 8, 8, 8, 8, 8, 8, 8, 8, 8, 8, 8, 8, 8, 8, 8, 8, 8, 8, 8, 8, 8, 8, 8, 8, 8, 8, 8, 8, 8, 8, 8, 8, 8, 8, 8, 8, 8, 8, 8, 8, 8, 8, 8, 8, 8, 8, 8, 8, 8, 8, 8, 8, 8, 8, 8, 8, 8, 8, 8, 8, 8, 8, 8, 8, 8, 8, 8, 8, 8, 8, 8, 8, 8, 8, 8, 8, 8, 8, 8, 8, 8, 8, 8, 8, 8, 8]⟩)) (.t 21)), none⟩,
    ⟨some 23, .p (.conv .i64 (.t 22)), none⟩,
    ⟨some 24, .p (.bin .add (.t 19) (.t 23)), none⟩,
    ⟨some 2, .p (.mov (.t 24)), none⟩])
  .ret)))))
def rs62 : List AR := [.tmp 2]
theorem ok62 : okF Try.prog 62 25 ac62 rs62 = true := by kernel_rfl
/-- slices.siftDownOrdered[int] -/
def ac63 : AC := (.seq (.reg [⟨some 10, .p (.mov (.t 1)), none⟩,
    ⟨some 8, .p (.mov (.t 10)), none⟩])
  (.block 0 (.loop (.block 1 (.seq (.reg [⟨some 11, .p (.mov (.t 8)), none⟩,
    ⟨some 12, .p (.bin .mul (.c (.int .i64 2)) (.t 11)), none⟩,
    ⟨some 13, .p (.bin .add (.t 12) (.c (.int .i64 1))), none⟩,
    ⟨some 9, .p (.mov (.t 13)), none⟩])
  (.seq (.seq (.reg [⟨some 14, .p (.mov (.t 9)), none⟩,
    ⟨some 15, .p (.mov (.t 2)), none⟩,
    ⟨some 16, .p (.bin .geq (.t 14) (.t 15)), none⟩])
  (.cond (.t 16) (.exit 0) .skip))
  (.seq (.seq (.draw 20 [] [⟨some 17, .p (.mov (.t 9)), none⟩,
    ⟨some 18, .p (.bin .add (.t 17) (.c (.int .i64 1))), none⟩,
    ⟨some 19, .p (.mov (.t 2)), none⟩,
    ⟨some 20, .p (.bin .lss (.t 18) (.t 19)), none⟩,
    ⟨some 21, .p (.mov (.t 20)), none⟩,
    ⟨some 22, .p (.mov (.t 0)), (some (21, true))⟩,
    ⟨some 23, .p (.mov (.t 3)), (some (21, true))⟩,
    ⟨some 24, .p (.mov (.t 9)), (some (21, true))⟩,
    ⟨some 25, .p (.bin .add (.t 23) (.t 24)), (some (21, true))⟩,
    ⟨some 26, .p (.idxA 1 none (.t 22) (.t 25)), (some (21, true))⟩,
    ⟨some 27, .h (.load false 1 (.t 26)), (some (21, true))⟩,
    ⟨some 28, .p (.mov (.t 0)), (some (21, true))⟩,
    ⟨some 29, .p (.mov (.t 3)), (some (21, true))⟩,
    ⟨some 30, .p (.mov (.t 9)), (some (21, true))⟩,
    ⟨some 31, .p (.bin .add (.t 29) (.t 30)), (some (21, true))⟩,
    ⟨some 32, .p (.bin .add (.t 31) (.c (.int .i64 1))), (some (21, true))⟩,
    ⟨some 33, .p (.idxA 1 none (.t 28) (.t 32)), (some (21, true))⟩,
    ⟨some 34, .h (.load false 1 (.t 33)), (some (21, true))⟩,
    ⟨some 35, .call 58 [(.t 27), (.t 34)], (some (21, true))⟩,
    ⟨some 36, .p (.pick (.t 21) (.t 35) (.c (.bool false))), none⟩])
  (.cond (.t 36) (.reg [⟨some 37, .p (.mov (.t 9)), none⟩,
    ⟨some 38, .p (.bin .add (.t 37) (.c (.int .i64 1))), none⟩,
    ⟨some 9, .p (.mov (.t 38)), none⟩]) .skip))
  (.seq (.seq (.draw 14 [] [⟨some 39, .p (.mov (.t 0)), none⟩,
    ⟨some 40, .p (.mov (.t 3)), none⟩,
    ⟨some 41, .p (.mov (.t 8)), none⟩,
    ⟨some 42, .p (.bin .add (.t 40) (.t 41)), none⟩,
    ⟨some 43, .p (.idxA 1 none (.t 39) (.t 42)), none⟩,
    ⟨some 44, .h (.load false 1 (.t 43)), none⟩,
    ⟨some 45, .p (.mov (.t 0)), none⟩,
    ⟨some 46, .p (.mov (.t 3)), none⟩,
    ⟨some 47, .p (.mov (.t 9)), none⟩,
    ⟨some 48, .p (.bin .add (.t 46) (.t 47)), none⟩,
    ⟨some 49, .p (.idxA 1 none (.t 45) (.t 48)), none⟩,
    ⟨some 50, .h (.load false 1 (.t 49)), none⟩,
    ⟨some 51, .call 58 [(.t 44), (.t 50)], none⟩,
    ⟨some 52, .p (.un .not (.t 51)), none⟩])
  (.cond (.t 52) .ret .skip))
  (.seq (.draw 24 [(13, 21), (19, 21), (19, 23), (21, 23), (13, 23)] [⟨some 53, .p (.mov (.t 0)), none⟩,
    ⟨some 54, .p (.mov (.t 3)), none⟩,
    ⟨some 55, .p (.mov (.t 8)), none⟩,
    ⟨some 56, .p (.bin .add (.t 54) (.t 55)), none⟩,
    ⟨some 57, .p (.mov (.t 0)), none⟩,
    ⟨some 58, .p (.mov (.t 3)), none⟩,
    ⟨some 59, .p (.mov (.t 9)), none⟩,
    ⟨some 60, .p (.bin .add (.t 58) (.t 59)), none⟩,
    ⟨some 61, .p (.mov (.t 0)), none⟩,
    ⟨some 62, .p (.mov (.t 3)), none⟩,
    ⟨some 63, .p (.mov (.t 9)), none⟩,
    ⟨some 64, .p (.bin .add (.t 62) (.t 63)), none⟩,
    ⟨some 65, .p (.idxA 1 none (.t 61) (.t 64)), none⟩,
    ⟨some 66, .h (.load false 1 (.t 65)), none⟩,
    ⟨some 67, .p (.mov (.t 0)), none⟩,
    ⟨some 68, .p (.mov (.t 3)), none⟩,
    ⟨some 69, .p (.mov (.t 8)), none⟩,
    ⟨some 70, .p (.bin .add (.t 68) (.t 69)), none⟩,
    ⟨some 71, .p (.idxA 1 none (.t 67) (.t 70)), none⟩,
    ⟨some 72, .h (.load false 1 (.t 71)), none⟩,
    ⟨some 73, .p (.idxA 1 none (.t 53) (.t 56)), none⟩,
    ⟨none, .h (.store 1 (.t 73) (.t 66)), none⟩,
    ⟨some 74, .p (.idxA 1 none (.t 57) (.t 60)), none⟩,
    ⟨none, .h (.store 1 (.t 74) (.t 72)), none⟩])
  (.reg [⟨some 75, .p (.mov (.t 9)), none⟩,
    ⟨some 8, .p (.mov (.t 75)), none⟩]))))))))))
def rs63 : List AR := []
theorem ok63 : okF Try.prog 63 76 ac63 rs63 = true := by kernel_rfl
/-- slices.nextPowerOfTwo -/
def ac64 : AC := (.seq (.reg [⟨some 2, .p (.mov (.c (.int .u64 0))), none⟩])
  (.seq (.reg [⟨some 3, .p (.mov (.t 0)), none⟩,
    ⟨some 4, .p (.convw .u64 (.t 3)), none⟩,
    ⟨some 5, .call 50 [(.t 4)], none⟩,
    ⟨some 6, .p (.binw .shl (.c (.int .u64 1)) (.t 5)), none⟩,
    ⟨some 2, .p (.mov (.t 6)), none⟩])
  .ret))
def rs64 : List AR := [.tmp 2]
theorem ok64 : okF Try.prog 64 7 ac64 rs64 = true := by kernel_rfl
/-- (*slices.xorshift).Next -/
def ac65 : AC := (.seq (.reg [⟨some 2, .p (.mov (.c (.int .u64 0))), none⟩])
  (.seq (.draw 10 [(2, 9), (5, 9)] [⟨some 3, .p (.mov (.t 0)), none⟩,
    ⟨some 4, .p (.nilchk (.t 3)), none⟩,
    ⟨some 5, .h (.load false 1 (.t 4)), none⟩,
    ⟨some 6, .p (.mov (.t 0)), none⟩,
    ⟨some 7, .p (.nilchk (.t 6)), none⟩,
    ⟨some 8, .h (.load false 1 (.t 7)), none⟩,
    ⟨some 9, .p (.binw .shl (.t 8) (.c (.int .u64 13))), none⟩,
    ⟨some 10, .p (.binw .xor (.t 5) (.t 9)), none⟩,
    ⟨some 11, .p (.nilchk (.t 3)), none⟩,
    ⟨none, .h (.store 1 (.t 11) (.t 10)), none⟩])
  (.seq (.draw 10 [(2, 9), (5, 9)] [⟨some 12, .p (.mov (.t 0)), none⟩,
    ⟨some 13, .p (.nilchk (.t 12)), none⟩,
    ⟨some 14, .h (.load false 1 (.t 13)), none⟩,
    ⟨some 15, .p (.mov (.t 0)), none⟩,
    ⟨some 16, .p (.nilchk (.t 15)), none⟩,
    ⟨some 17, .h (.load false 1 (.t 16)), none⟩,
    ⟨some 18, .p (.binw .shr (.t 17) (.c (.int .u64 7))), none⟩,
    ⟨some 19, .p (.binw .xor (.t 14) (.t 18)), none⟩,
    ⟨some 20, .p (.nilchk (.t 12)), none⟩,
    ⟨none, .h (.store 1 (.t 20) (.t 19)), none⟩])
  (.seq (.draw 10 [(2, 9), (5, 9)] [⟨some 21, .p (.mov (.t 0)), none⟩,
    ⟨some 22, .p (.nilchk (.t 21)), none⟩,
    ⟨some 23, .h (.load false 1 (.t 22)), none⟩,
    ⟨some 24, .p (.mov (.t 0)), none⟩,
    ⟨some 25, .p (.nilchk (.t 24)), none⟩,
    ⟨some 26, .h (.load false 1 (.t 25)), none⟩,
    ⟨some 27, .p (.binw .shl (.t 26) (.c (.int .u64 17))), none⟩,
    ⟨some 28, .p (.binw .xor (.t 23) (.t 27)), none⟩,
    ⟨some 29, .p (.nilchk (.t 21)), none⟩,
    ⟨none, .h (.store 1 (.t 29) (.t 28)), none⟩])
  (.seq (.reg [⟨some 30, .p (.mov (.t 0)), none⟩,
    ⟨some 31, .p (.nilchk (.t 30)), none⟩,
    ⟨some 32, .h (.load false 1 (.t 31)), none⟩,
    ⟨some 2, .p (.mov (.t 32)), none⟩])
  .ret)))))
def rs65 : List AR := [.tmp 2]
theorem ok65 : okF Try.prog 65 33 ac65 rs65 = true := by kernel_rfl
/-- slices.medianAdjacentOrdered[int] -/
def ac66 : AC := (.seq (.reg [⟨some 6, .p (.mov (.c (.int .i64 0))), none⟩])
  (.seq (.reg [⟨some 7, .p (.mov (.t 0)), none⟩,
    ⟨some 8, .p (.mov (.t 1)), none⟩,
    ⟨some 9, .p (.bin .sub (.t 8) (.c (.int .i64 1))), none⟩,
    ⟨some 10, .p (.mov (.t 1)), none⟩,
    ⟨some 11, .p (.mov (.t 1)), none⟩,
    ⟨some 12, .p (.bin .add (.t 11) (.c (.int .i64 1))), none⟩,
    ⟨some 13, .p (.mov (.t 2)), none⟩,
    ⟨some 14, .call 67 [(.t 7), (.t 9), (.t 10), (.t 12), (.t 13)], none⟩,
    ⟨some 6, .p (.mov (.t 14)), none⟩])
  .ret))
def rs66 : List AR := [.tmp 6]
theorem ok66 : okF Try.prog 66 15 ac66 rs66 = true := by kernel_rfl
/-- slices.medianOrdered[int] -/
def ac67 : AC := (.seq (.reg [⟨some 10, .p (.mov (.c (.int .i64 0))), none⟩])
  (.seq (.reg [⟨some 12, .p (.mov (.t 0)), none⟩,
    ⟨some 13, .p (.mov (.t 1)), none⟩,
    ⟨some 14, .p (.mov (.t 2)), none⟩,
    ⟨some 15, .p (.mov (.t 4)), none⟩,
    ⟨some 16, .call 69 [(.t 12), (.t 13), (.t 14), (.t 15)], none⟩,
    ⟨some 11, .p (.mov (.t 16)), none⟩,
    ⟨some 17, .p (.extract 0 (.t 11)), none⟩,
    ⟨some 18, .p (.extract 1 (.t 11)), none⟩,
    ⟨some 1, .p (.mov (.t 17)), none⟩,
    ⟨some 2, .p (.mov (.t 18)), none⟩])
  (.seq (.reg [⟨some 20, .p (.mov (.t 0)), none⟩,
    ⟨some 21, .p (.mov (.t 2)), none⟩,
    ⟨some 22, .p (.mov (.t 3)), none⟩,
    ⟨some 23, .p (.mov (.t 4)), none⟩,
    ⟨some 24, .call 69 [(.t 20), (.t 21), (.t 22), (.t 23)], none⟩,
    ⟨some 19, .p (.mov (.t 24)), none⟩,
    ⟨some 25, .p (.extract 0 (.t 19)), none⟩,
    ⟨some 26, .p (.extract 1 (.t 19)), none⟩,
    ⟨some 2, .p (.mov (.t 25)), none⟩,
    ⟨some 3, .p (.mov (.t 26)), none⟩])
  (.seq (.reg [⟨some 28, .p (.mov (.t 0)), none⟩,
    ⟨some 29, .p (.mov (.t 1)), none⟩,
    ⟨some 30, .p (.mov (.t 2)), none⟩,
    ⟨some 31, .p (.mov (.t 4)), none⟩,
    ⟨some 32, .call 69 [(.t 28), (.t 29), (.t 30), (.t 31)], none⟩,
    ⟨some 27, .p (.mov (.t 32)), none⟩,
    ⟨some 33, .p (.extract 0 (.t 27)), none⟩,
    ⟨some 34, .p (.extract 1 (.t 27)), none⟩,
    ⟨some 1, .p (.mov (.t 33)), none⟩,
    ⟨some 2, .p (.mov (.t 34)), none⟩])
  (.seq (.reg [⟨some 35, .p (.mov (.t 2)), none⟩,
    ⟨some 10, .p (.mov (.t 35)), none⟩])
  .ret)))))
def rs67 : List AR := [.tmp 10]
theorem ok67 : okF Try.prog 67 36 ac67 rs67 = true := by kernel_rfl
/-- cmp.isNaN[int] -/
def ac68 : AC := (.seq (.reg [⟨some 2, .p (.mov (.c (.bool false))), none⟩])
  (.seq (.reg [⟨some 3, .p (.mov (.t 0)), none⟩,
    ⟨some 4, .p (.mov (.t 0)), none⟩,
    ⟨some 5, .p (.bin .neq (.t 3) (.t 4)), none⟩,
    ⟨some 2, .p (.mov (.t 5)), none⟩])
  .ret))
def rs68 : List AR := [.tmp 2]
theorem ok68 : okF Try.prog 68 6 ac68 rs68 = true := by kernel_rfl
/-- slices.order2Ordered[int] -/
def ac69 : AC := (.seq (.reg [⟨some 8, .p (.mov (.c (.int .i64 0))), none⟩,
    ⟨some 9, .p (.mov (.c (.int .i64 0))), none⟩])
  (.seq (.seq (.draw 9 [] [⟨some 10, .p (.mov (.t 0)), none⟩,
    ⟨some 11, .p (.mov (.t 2)), none⟩,
    ⟨some 12, .p (.idxA 1 none (.t 10) (.t 11)), none⟩,
    ⟨some 13, .h (.load false 1 (.t 12)), none⟩,
    ⟨some 14, .p (.mov (.t 0)), none⟩,
    ⟨some 15, .p (.mov (.t 1)), none⟩,
    ⟨some 16, .p (.idxA 1 none (.t 14) (.t 15)), none⟩,
    ⟨some 17, .h (.load false 1 (.t 16)), none⟩,
    ⟨some 18, .call 58 [(.t 13), (.t 17)], none⟩])
  (.cond (.t 18) (.seq (.reg [⟨some 19, .p (.mov (.t 3)), none⟩,
    ⟨some 20, .p (.nilchk (.t 19)), none⟩,
    ⟨some 21, .h (.load false 1 (.t 20)), none⟩,
    ⟨some 22, .p (.bin .add (.t 21) (.c (.int .i64 1))), none⟩,
    ⟨some 23, .p (.nilchk (.t 19)), none⟩,
    ⟨none, .h (.store 1 (.t 23) (.t 22)), none⟩])
  (.seq (.reg [⟨some 24, .p (.mov (.t 2)), none⟩,
    ⟨some 25, .p (.mov (.t 1)), none⟩,
    ⟨some 8, .p (.mov (.t 24)), none⟩,
    ⟨some 9, .p (.mov (.t 25)), none⟩])
  .ret)) .skip))
  (.seq (.reg [⟨some 26, .p (.mov (.t 1)), none⟩,
    ⟨some 27, .p (.mov (.t 2)), none⟩,
    ⟨some 8, .p (.mov (.t 26)), none⟩,
    ⟨some 9, .p (.mov (.t 27)), none⟩])
  .ret)))
def rs69 : List AR := [.tmp 8, .tmp 9]
theorem ok69 : okF Try.prog 69 28 ac69 rs69 = true := by kernel_rfl
end Go.Proofs

set_option maxRecDepth 100000
namespace Go.Proofs
open Go Go.Eng
instance globs : Globs := { l := [], rf := fun id N ps asg bd => match id with
  | 380 => RfIs Try.prog N [25] rfA380 rfB380 ps asg bd
  | 480 => RfIs Try.prog N [7] rfA480 rfB480 ps asg bd
  | _ => False }
theorem at380 : RfAt Try.prog 380 [25] rfA380 rfB380 := ⟨fun _ _ _ _ => Iff.rfl⟩
theorem at480 : RfAt Try.prog 480 [7] rfA480 rfB480 := ⟨fun _ _ _ _ => Iff.rfl⟩
def orTbl : List FE := [⟨7, 103, ac7, rs7⟩, ⟨8, 45, ac8, rs8⟩, ⟨9, 12, ac9, rs9⟩, ⟨10, 13, ac10, rs10⟩, ⟨11, 22, ac11, rs11⟩, ⟨12, 45, ac12, rs12⟩, ⟨13, 26, ac13, rs13⟩, ⟨14, 71, ac14, rs14⟩, ⟨15, 80, ac15, rs15⟩, ⟨16, 46, ac16, rs16⟩, ⟨17, 62, ac17, rs17⟩, ⟨18, 109, ac18, rs18⟩, ⟨19, 106, ac19, rs19⟩, ⟨20, 7, ac20, rs20⟩, ⟨21, 26, ac21, rs21⟩, ⟨22, 6, ac22, rs22⟩, ⟨23, 8, ac23, rs23⟩, ⟨24, 8, ac24, rs24⟩, ⟨25, 9, ac25, rs25⟩, ⟨26, 8, ac26, rs26⟩, ⟨27, 7, ac27, rs27⟩, ⟨28, 31, ac28, rs28⟩, ⟨29, 31, ac29, rs29⟩, ⟨30, 52, ac30, rs30⟩, ⟨31, 16, ac31, rs31⟩, ⟨32, 20, ac32, rs32⟩, ⟨33, 61, ac33, rs33⟩, ⟨34, 9, ac34, rs34⟩, ⟨35, 4, ac35, rs35⟩, ⟨36, 16, ac36, rs36⟩, ⟨37, 13, ac37, rs37⟩, ⟨38, 42, ac38, rs38⟩, ⟨39, 9, ac39, rs39⟩, ⟨40, 33, ac40, rs40⟩, ⟨41, 17, ac41, rs41⟩, ⟨42, 24, ac42, rs42⟩, ⟨43, 19, ac43, rs43⟩, ⟨44, 5, ac44, rs44⟩, ⟨45, 11, ac45, rs45⟩, ⟨46, 16, ac46, rs46⟩, ⟨47, 6, ac47, rs47⟩, ⟨48, 13, ac48, rs48⟩, ⟨49, 134, ac49, rs49⟩, ⟨50, 8, ac50, rs50⟩, ⟨51, 44, ac51, rs51⟩, ⟨52, 49, ac52, rs52⟩, ⟨53, 56, ac53, rs53⟩, ⟨54, 65, ac54, rs54⟩, ⟨55, 57, ac55, rs55⟩, ⟨56, 32, ac56, rs56⟩, ⟨57, 133, ac57, rs57⟩, ⟨58, 17, ac58, rs58⟩, ⟨59, 84, ac59, rs59⟩, ⟨60, 168, ac60, rs60⟩, ⟨61, 19, ac61, rs61⟩, ⟨62, 25, ac62, rs62⟩, ⟨63, 76, ac63, rs63⟩, ⟨64, 7, ac64, rs64⟩, ⟨65, 33, ac65, rs65⟩, ⟨66, 15, ac66, rs66⟩, ⟨67, 36, ac67, rs67⟩, ⟨68, 6, ac68, rs68⟩, ⟨69, 28, ac69, rs69⟩]
theorem orOk : okAll Try.prog orTbl := ⟨ok7, ok8, ok9, ok10, ok11, ok12, ok13, ok14, ok15, ok16, ok17, ok18, ok19, ok20, ok21, ok22, ok23, ok24, ok25, ok26, ok27, ok28, ok29, ok30, ok31, ok32, ok33, ok34, ok35, ok36, ok37, ok38, ok39, ok40, ok41, ok42, ok43, ok44, ok45, ok46, ok47, ok48, ok49, ok50, ok51, ok52, ok53, ok54, ok55, ok56, ok57, ok58, ok59, ok60, ok61, ok62, ok63, ok64, ok65, ok66, ok67, ok68, ok69, trivial⟩
def orRt : List RE := [⟨380, [25], rfA380, rfB380⟩, ⟨480, [7], rfA480, rfB480⟩]
theorem orRt_ok : rtAll Try.prog orRt := ⟨⟨at380, rfl, rfl⟩, ⟨at480, rfl, rfl⟩, trivial⟩
theorem rf38 : ac38.rfAll Try.prog := by
  simp only [ac38, AC.rfAll, true_and, and_true]
  exact ⟨at380, rfl, rfl⟩
theorem rf48 : ac48.rfAll Try.prog := by
  simp only [ac48, AC.rfAll, true_and, and_true]
  exact ⟨at480, rfl, rfl⟩
theorem orRf : rfTbl Try.prog orTbl := ⟨AC.rfAll_of rfl, AC.rfAll_of rfl, AC.rfAll_of rfl, AC.rfAll_of rfl, AC.rfAll_of rfl, AC.rfAll_of rfl, AC.rfAll_of rfl, AC.rfAll_of rfl, AC.rfAll_of rfl, AC.rfAll_of rfl, AC.rfAll_of rfl, AC.rfAll_of rfl, AC.rfAll_of rfl, AC.rfAll_of rfl, AC.rfAll_of rfl, AC.rfAll_of rfl, AC.rfAll_of rfl, AC.rfAll_of rfl, AC.rfAll_of rfl, AC.rfAll_of rfl, AC.rfAll_of rfl, AC.rfAll_of rfl, AC.rfAll_of rfl, AC.rfAll_of rfl, AC.rfAll_of rfl, AC.rfAll_of rfl, AC.rfAll_of rfl, AC.rfAll_of rfl, AC.rfAll_of rfl, AC.rfAll_of rfl, AC.rfAll_of rfl, rf38, AC.rfAll_of rfl, AC.rfAll_of rfl, AC.rfAll_of rfl, AC.rfAll_of rfl, AC.rfAll_of rfl, AC.rfAll_of rfl, AC.rfAll_of rfl, AC.rfAll_of rfl, AC.rfAll_of rfl, rf48, AC.rfAll_of rfl, AC.rfAll_of rfl, AC.rfAll_of rfl, AC.rfAll_of rfl, AC.rfAll_of rfl, AC.rfAll_of rfl, AC.rfAll_of rfl, AC.rfAll_of rfl, AC.rfAll_of rfl, AC.rfAll_of rfl, AC.rfAll_of rfl, AC.rfAll_of rfl, AC.rfAll_of rfl, AC.rfAll_of rfl, AC.rfAll_of rfl, AC.rfAll_of rfl, AC.rfAll_of rfl, AC.rfAll_of rfl, AC.rfAll_of rfl, AC.rfAll_of rfl, AC.rfAll_of rfl, trivial⟩
end Go.Proofs

set_option maxRecDepth 1000000
set_option maxHeartbeats 0
namespace Go.Proofs
open Go Go.Eng
theorem san_run : resultR noOv orTbl orRt 1000 60 7 [] = some (.bool true) := by kernel_rfl
theorem san : CallA Try.prog 7 [] Heap.nil fun v H' => v = .bool true ∧ H' = Heap.nil := CallA.computedR noOv_ok orOk orRf orRt_ok 1000 60 san_run
end Go.Proofs

namespace Go.Proofs
open Go Go.Eng
set_option maxRecDepth 100000
set_option maxHeartbeats 2000000
abbrev I (n : Int) : AV := .int .i64 n
/-- An access. -/
structure Acc where
  (a s : Int)
  st : Bool
/-- An event. -/
structure Ev where
  cpu : Int
  bd : Bool
  l : List Acc
  cap : Option Nat
def acs : List Acc → List AV
  | [] => []
  | x :: r => I x.a :: I x.s :: .bool x.st :: acs r
def evs : List Ev → List AV
  | [] => []
  | e :: r => I e.cpu :: .bool e.bd :: .dslice (acs e.l) e.l.length e.cap :: evs r
def acv (x : Acc) : AV := .agg [I x.a, I x.s, .bool x.st]
def evv (e : Ev) : AV := .agg [I e.cpu, .bool e.bd, .dslice (acs e.l) e.l.length e.cap]
theorem acs_at : ∀ (i : Nat) (l : List Acc) (h : i < l.length), (acs l).drop (i * 3) = I (l[i].a) :: I (l[i].s) :: .bool (l[i].st) :: acs (l.drop (i + 1))
  | 0, x :: r, _ => rfl
  | i + 1, x :: r, h => by
    have e : (i + 1) * 3 = i * 3 + 3 := by omega
    rw [e]
    show (acs r).drop (i * 3) = _
    rw [acs_at i r (by simpa using h)]
    rfl
theorem evs_at : ∀ (i : Nat) (l : List Ev) (h : i < l.length), (evs l).drop (i * 3) = I (l[i].cpu) :: .bool (l[i].bd) :: .dslice (acs l[i].l) l[i].l.length l[i].cap :: evs (l.drop (i + 1))
  | 0, x :: r, _ => rfl
  | i + 1, x :: r, h => by
    have e : (i + 1) * 3 = i * 3 + 3 := by omega
    rw [e]
    show (evs r).drop (i * 3) = _
    rw [evs_at i r (by simpa using h)]
    rfl
theorem acs_noLoc : ∀ (l : List Acc), ∀ c ∈ acs l, noLoc c = true
  | [], c, h => by cases h
  | x :: r, c, h => by
    simp only [acs, List.mem_cons] at h
    rcases h with rfl | rfl | rfl | h
    · rfl
    · rfl
    · rfl
    · exact acs_noLoc r c h
theorem acs_scal : ∀ (l : List Acc), ∀ c ∈ acs l, scal c = true
  | [], c, h => by cases h
  | x :: r, c, h => by
    simp only [acs, List.mem_cons] at h
    rcases h with rfl | rfl | rfl | h
    · rfl
    · rfl
    · rfl
    · exact acs_scal r c h
theorem acs_len : ∀ (l : List Acc), (acs l).length = l.length * 3
  | [] => rfl
  | x :: r => by simp only [acs, List.length_cons, acs_len r]; omega
theorem evs_len : ∀ (l : List Ev), (evs l).length = l.length * 3
  | [] => rfl
  | x :: r => by simp only [evs, List.length_cons, evs_len r]; omega
theorem nt0 {cs : List AV} {a b c : AV} {r : List AV} {K : AV → Prop} (e : cs = a :: b :: c :: r) (h : fv a K) : nthK 0 cs K := by subst e; exact h
theorem nt1 {cs : List AV} {a b c : AV} {r : List AV} {K : AV → Prop} (e : cs = a :: b :: c :: r) (h : fv b K) : nthK 0 (cs.drop 1) K := by subst e; exact h
theorem nt2 {cs : List AV} {a b c : AV} {r : List AV} {K : AV → Prop} (e : cs = a :: b :: c :: r) (h : fv c K) : nthK 0 (cs.drop 2) K := by subst e; exact h
theorem tk3 {cs : List AV} {a b c : AV} {r : List AV} {K : List AV → Prop} (e : cs = a :: b :: c :: r) (h : K [a, b, c]) : takeK 3 cs K := by
  subst e
  rw [takeK_eq _ _ _ (by simp)]; exact h
/-! ### What few events are -/
def Acc.ok (x : Acc) : Prop := ¬ x.a < 0 ∧ ¬ x.a > 1048576 ∧ ¬ x.s < 1 ∧ ¬ x.s > 128
def Ev.ok (e : Ev) : Prop := ¬ (e.l.length : Int) > 12 ∧ ∀ k (h : k < e.l.length), e.l[k].ok
def FewP (l : List Ev) (most : Int) : Prop := (l.length : Int) ≤ most ∧ ∀ i (h : i < l.length), l[i].ok
open Classical in
noncomputable def fewB (l : List Ev) (most : Int) : Bool := decide (FewP l most)
theorem fewB_t {l : List Ev} {m : Int} (h : FewP l m) : fewB l m = true := by unfold fewB; simpa using h
theorem fewB_f {l : List Ev} {m : Int} (h : ¬ FewP l m) : fewB l m = false := by unfold fewB; simpa using h
def L6 (l : List Ev) (cap : Option Nat) (most : Int) (m : Nat) (fr : Fr) (H : Heap) : Prop := ∃ i : Nat, i ≤ l.length ∧ m = l.length - i ∧ (∀ j (h : j < l.length), j < i → l[j].ok) ∧ fr = [(0, .dslice (evs l) l.length cap), (1, I most), (5, I i)] ∧ H = Heap.nil
def L6b (l : List Ev) (cap : Option Nat) (most : Int) (i : Nat) (e : Ev) (m : Nat) (fr : Fr) (H : Heap) : Prop := ∃ k : Nat, k ≤ e.l.length ∧ m = e.l.length - k ∧ (∀ j (h : j < e.l.length), j < k → e.l[j].ok) ∧ fr = [(0, .dslice (evs l) l.length cap), (1, I most), (5, I i), (6, I k)] ∧ H = Heap.nil
theorem c6 (l : List Ev) (cap : Option Nat) (most : Int) (hm : most ≤ 1000) : CallA Try.prog 6 [.dslice (evs l) l.length cap, I most] Heap.nil fun v H' => v = .bool (fewB l most) ∧ H' = Heap.nil := by
  refine callA_of ok6 (Nat.le_of_ble_eq_true rfl) ?_
  repeat' ((conv => whnf); first
      | refine Branch.ofT rfl ?_
      | refine Branch.ofF rfl ?_
      | refine Branch.dec (fun h => ?_) (fun h => ?_)
      | refine Branch.negdec (fun h => ?_) (fun h => ?_)
      | refine Branch.neg (fun h => ?_) (fun h => ?_)
      | refine Branch.mk (fun h => ?_) (fun h => ?_)
      | (refine Side.mk ?_ ?_; · first | omega | decide)
      | (refine SideD.mk ?_ ?_; · first | omega | decide)
      | refine ⟨_, Nat.lt_succ_self _, To.refl (.inl ⟨rfl, ?_⟩)⟩
      | (refine Side.mk ?_ ?_; · (simp; done))
      | fail
      )
  all_goals (conv => whnf)
  refine ⟨L6 l cap most, l.length, To.gc [] [0, 1, 5] rfl trivial ⟨0, by omega, by omega, fun j h hj => by omega, rfl, rfl⟩, ?_⟩
  rintro m fr H ⟨i, hi, rfl, hI, rfl, rfl⟩
  by_cases hil : i < l.length
  · by_cases him : (i : Int) ≤ most
    · have hat := evs_at i l hil
      repeat' ((conv => whnf); first
          | refine Branch.ofT rfl ?_
          | refine Branch.ofF rfl ?_
          | refine Branch.ofT (decide_eq_true (by omega)) ?_
          | refine Branch.dec (fun h => ?_) (fun h => ?_)
          | refine Branch.negdec (fun h => ?_) (fun h => ?_)
          | refine Branch.neg (fun h => ?_) (fun h => ?_)
          | refine Branch.mk (fun h => ?_) (fun h => ?_)
          | (refine Side.mk ?_ ?_; · first | omega | decide)
          | (refine SideD.mk ?_ ?_; · first | omega | decide)
          | refine ⟨_, Nat.lt_succ_self _, To.refl (.inl ⟨rfl, ?_⟩)⟩
          | refine nt2 hat ?_
          | (refine Side.mk ?_ ?_; · (simp; done))
          | fail
          )
      all_goals (conv => whnf)
      · rw [fewB_f (fun hf => (hf.2 i hil).1 h)]
        exact RetA.data rfl ⟨rfl, rfl⟩
      · refine ⟨L6b l cap most i l[i], l[i].l.length, To.gc [] [0, 1, 5, 6] rfl trivial ⟨0, by omega, by omega, fun j h hj => by omega, rfl, rfl⟩, ?_⟩
        rintro m fr H ⟨k, hk, rfl, hJ, rfl, rfl⟩
        by_cases hkl : k < l[i].l.length
        · have hak := acs_at k l[i].l hkl
          repeat' ((conv => whnf); first
              | refine Branch.ofT rfl ?_
              | refine Branch.ofF rfl ?_
              | refine Branch.ofT (decide_eq_true (by omega)) ?_
              | refine Branch.dec (fun h => ?_) (fun h => ?_)
              | refine Branch.negdec (fun h => ?_) (fun h => ?_)
              | refine Branch.neg (fun h => ?_) (fun h => ?_)
              | refine Branch.mk (fun h => ?_) (fun h => ?_)
              | (refine Side.mk ?_ ?_; · first | omega | decide)
              | (refine SideD.mk ?_ ?_; · first | omega | decide)
              | refine ⟨_, Nat.lt_succ_self _, To.refl (.inl ⟨rfl, ?_⟩)⟩
              | refine nt2 hat ?_
              | refine tk3 hak ?_
              | (refine Side.mk ?_ ?_; · (simp; done))
              | fail
              )
          all_goals (conv => whnf)
          all_goals first
            | (rw [fewB_f (fun hf => by have o := (hf.2 i hil).2 k hkl; obtain ⟨o1, o2, o3, o4⟩ := o; omega)]; exact RetA.data rfl ⟨rfl, rfl⟩)
            | exact ⟨l[i].l.length - (k + 1), by omega, To.gc [] [0, 1, 5, 6] rfl trivial ⟨k + 1, by omega, rfl, fun j hj hji => by
                rcases Nat.lt_succ_iff_lt_or_eq.1 hji with q | rfl
                · exact hJ j hj q
                · exact ⟨by omega, by omega, by omega, by omega⟩, rfl, rfl⟩⟩
        · have : k = l[i].l.length := by omega
          subst this
          repeat' ((conv => whnf); first
              | refine Branch.ofT rfl ?_
              | refine Branch.ofF rfl ?_
              | refine Branch.ofF (decide_eq_false (by omega)) ?_
              | refine Branch.dec (fun h => ?_) (fun h => ?_)
              | refine Branch.negdec (fun h => ?_) (fun h => ?_)
              | refine Branch.neg (fun h => ?_) (fun h => ?_)
              | refine Branch.mk (fun h => ?_) (fun h => ?_)
              | (refine Side.mk ?_ ?_; · first | omega | decide)
              | (refine SideD.mk ?_ ?_; · first | omega | decide)
              | refine ⟨_, Nat.lt_succ_self _, To.refl (.inl ⟨rfl, ?_⟩)⟩
              | refine nt2 hat ?_
              | (refine Side.mk ?_ ?_; · (simp; done))
              | fail
              )
          all_goals (conv => whnf)
          refine ⟨l.length - (i + 1), ⟨?_, To.gc [] [0, 1, 5] rfl trivial ⟨i + 1, ?_, rfl, ?_, rfl, rfl⟩⟩⟩
          · omega
          · omega
          · intro j hj hji
            rcases Nat.lt_succ_iff_lt_or_eq.1 hji with q | rfl
            · exact hI j hj q
            · exact ⟨h, fun q hq => hJ q hq hq⟩
    · repeat' ((conv => whnf); first
          | refine Branch.ofT rfl ?_
          | refine Branch.ofF rfl ?_
          | refine Branch.ofT (decide_eq_true (by omega)) ?_
          | refine Branch.ofF (decide_eq_false (by omega)) ?_
          | refine Branch.dec (fun h => ?_) (fun h => ?_)
          | refine Branch.negdec (fun h => ?_) (fun h => ?_)
          | refine Branch.neg (fun h => ?_) (fun h => ?_)
          | refine Branch.mk (fun h => ?_) (fun h => ?_)
          | (refine Side.mk ?_ ?_; · first | omega | decide)
          | (refine SideD.mk ?_ ?_; · first | omega | decide)
          | refine ⟨_, Nat.lt_succ_self _, To.refl (.inl ⟨rfl, ?_⟩)⟩
          | (refine Side.mk ?_ ?_; · (simp; done))
          | fail
          )
      all_goals (conv => whnf)
      rw [fewB_f (fun hf => by have := hf.1; omega)]
      refine RetA.data rfl ⟨?_, rfl⟩
      show AV.bool (decide _) = _
      rw [decide_eq_false (by omega)]
  · have : i = l.length := by omega
    subst this
    repeat' ((conv => whnf); first
        | refine Branch.ofT rfl ?_
        | refine Branch.ofF rfl ?_
        | refine Branch.ofF (decide_eq_false (by omega)) ?_
        | refine Branch.dec (fun h => ?_) (fun h => ?_)
        | refine Branch.negdec (fun h => ?_) (fun h => ?_)
        | refine Branch.neg (fun h => ?_) (fun h => ?_)
        | refine Branch.mk (fun h => ?_) (fun h => ?_)
        | (refine Side.mk ?_ ?_; · first | omega | decide)
        | (refine SideD.mk ?_ ?_; · first | omega | decide)
        | refine ⟨_, Nat.lt_succ_self _, To.refl (.inl ⟨rfl, ?_⟩)⟩
        | (refine Side.mk ?_ ?_; · (simp; done))
        | fail
        )
    all_goals (conv => whnf)
    refine RetA.data rfl ⟨?_, rfl⟩
    by_cases hle : (l.length : Int) ≤ most
    · rw [fewB_t ⟨hle, fun q hq => hI q hq hq⟩]
      show AV.bool (decide _) = _
      rw [decide_eq_true hle]
    · rw [fewB_f (fun hf => hle hf.1)]
      show AV.bool (decide _) = _
      rw [decide_eq_false hle]
end Go.Proofs

namespace Go.Proofs
open Go Go.Eng
set_option maxRecDepth 100000
set_option maxHeartbeats 2000000
theorem datE {cs : List AV} (h : cs.all noLoc = true) : dataB (.cells cs) := fun c hc => List.all_eq_true.1 h c hc
/-- Two accesses conflict. -/
def ovl (x y : Acc) : Bool := (x.st || y.st) && (decide (x.a < y.a + y.s) && decide (y.a < x.a + x.s))
theorem c29' (xa xs ya ys : Int) (xb yb : Bool) (x1 : ¬ xa < 0) (x2 : ¬ xa > 1048576) (x3 : ¬ xs < 1) (x4 : ¬ xs > 128) (y1 : ¬ ya < 0) (y2 : ¬ ya > 1048576) (y3 : ¬ ys < 1) (y4 : ¬ ys > 128) :
    CallA Try.prog 29 [.agg [I xa, I xs, .bool xb], .agg [I ya, I ys, .bool yb]] Heap.nil fun v H' => v = .bool (ovl ⟨xa, xs, xb⟩ ⟨ya, ys, yb⟩) ∧ H' = Heap.nil := by
  cases xb <;> cases yb
  all_goals refine callA_of ok29 (Nat.le_of_ble_eq_true rfl) ?_
  all_goals
    repeat' ((conv => whnf); first
        | refine Branch.ofT rfl ?_
        | refine Branch.ofF rfl ?_
        | refine Branch.dec (fun h => ?_) (fun h => ?_)
        | refine Branch.negdec (fun h => ?_) (fun h => ?_)
        | refine Branch.neg (fun h => ?_) (fun h => ?_)
        | refine Branch.mk (fun h => ?_) (fun h => ?_)
        | (refine Side.mk ?_ ?_; · first | omega | decide)
        | (refine SideD.mk ?_ ?_; · first | omega | decide)
        | refine ⟨_, Nat.lt_succ_self _, To.refl (.inl ⟨rfl, ?_⟩)⟩
        | (refine Side.mk ?_ ?_; · (simp; done))
        | fail
        )
    all_goals (conv => whnf)
  all_goals
    refine RetA.data rfl ⟨?_, rfl⟩
    simp [one, ovl, *]
theorem c29 (x y : Acc) (hx : x.ok) (hy : y.ok) : CallA Try.prog 29 [acv x, acv y] Heap.nil fun v H' => v = .bool (ovl x y) ∧ H' = Heap.nil :=
  c29' x.a x.s y.a y.s x.st y.st hx.1 hx.2.1 hx.2.2.1 hx.2.2.2 hy.1 hy.2.1 hy.2.2.1 hy.2.2.2
theorem c28' (xa xs ya ys : Int) (xb yb : Bool) (x1 : ¬ xa < 0) (x2 : ¬ xa > 1048576) (x3 : ¬ xs < 1) (x4 : ¬ xs > 128) (y1 : ¬ ya < 0) (y2 : ¬ ya > 1048576) (y3 : ¬ ys < 1) (y4 : ¬ ys > 128) :
    CallA Try.prog 28 [.agg [I xa, I xs, .bool xb], .agg [I ya, I ys, .bool yb]] Heap.nil fun v H' => v = .bool (ovl ⟨xa, xs, xb⟩ ⟨ya, ys, yb⟩) ∧ H' = Heap.nil := by
  cases xb <;> cases yb
  all_goals refine callA_of ok28 (Nat.le_of_ble_eq_true rfl) ?_
  all_goals
    repeat' ((conv => whnf); first
        | refine Branch.ofT rfl ?_
        | refine Branch.ofF rfl ?_
        | refine Branch.dec (fun h => ?_) (fun h => ?_)
        | refine Branch.negdec (fun h => ?_) (fun h => ?_)
        | refine Branch.neg (fun h => ?_) (fun h => ?_)
        | refine Branch.mk (fun h => ?_) (fun h => ?_)
        | (refine Side.mk ?_ ?_; · first | omega | decide)
        | (refine SideD.mk ?_ ?_; · first | omega | decide)
        | refine ⟨_, Nat.lt_succ_self _, To.refl (.inl ⟨rfl, ?_⟩)⟩
        | (refine Side.mk ?_ ?_; · (simp; done))
        | fail
        )
    all_goals (conv => whnf)
  all_goals
    refine RetA.data rfl ⟨?_, rfl⟩
    simp [one, ovl, *]
theorem c28 (x y : Acc) (hx : x.ok) (hy : y.ok) : CallA Try.prog 28 [acv x, acv y] Heap.nil fun v H' => v = .bool (ovl x y) ∧ H' = Heap.nil :=
  c28' x.a x.s y.a y.s x.st y.st hx.1 hx.2.1 hx.2.2.1 hx.2.2.2 hy.1 hy.2.1 hy.2.2.1 hy.2.2.2
/-- Two events conflict. -/
def conA (a b : Ev) : Bool := a.l.any fun x => b.l.any (ovl x)
def con (a b : Ev) : Bool := decide (a.cpu = b.cpu) || (a.bd || (b.bd || conA a b))
theorem any_take {α : Type} (p : α → Bool) (l : List α) (i : Nat) (h : i < l.length) : (l.take (i + 1)).any p = ((l.take i).any p || p l[i]) := by
  rw [List.take_succ, List.getElem?_eq_getElem h, List.any_append]
  simp
theorem any_at {α : Type} (p : α → Bool) (l : List α) (i : Nat) (h : i < l.length) (hp : p l[i] = true) : l.any p = true := List.any_eq_true.2 ⟨l[i], List.getElem_mem h, hp⟩
def H12 (a b : Ev) : Heap := ⟨2, [(0, .cells [I a.cpu, .bool a.bd, .dslice (acs a.l) a.l.length a.cap]), (1, .cells [I b.cpu, .bool b.bd, .dslice (acs b.l) b.l.length b.cap])]⟩
def L12 (a b : Ev) (m : Nat) (fr : Fr) (H : Heap) : Prop := ∃ i : Nat, i ≤ a.l.length ∧ m = a.l.length - i ∧ ((a.l.take i).any fun x => b.l.any (ovl x)) = false ∧ fr = [(2, .ptr 0 0), (3, .ptr 1 0), (5, I i)] ∧ H = H12 a b
def L12b (a b : Ev) (i : Nat) (x : Acc) (m : Nat) (fr : Fr) (H : Heap) : Prop := ∃ k : Nat, k ≤ b.l.length ∧ m = b.l.length - k ∧ ((b.l.take k).any (ovl x)) = false ∧ fr = [(2, .ptr 0 0), (3, .ptr 1 0), (5, I i), (6, I k)] ∧ H = H12 a b
theorem c12 (a b : Ev) (ha : a.ok) (hb : b.ok) : CallA Try.prog 12 [evv a, evv b] Heap.nil fun v H' => v = .bool (con a b) ∧ H' = Heap.nil := by
  have ha1 := ha.1
  have hb1 := hb.1
  refine callA_of ok12 (Nat.le_of_ble_eq_true rfl) ?_
  repeat' ((conv => whnf); first
      | refine Branch.ofT rfl ?_
      | refine Branch.ofF rfl ?_
      | refine Branch.dec (fun h => ?_) (fun h => ?_)
      | refine Branch.negdec (fun h => ?_) (fun h => ?_)
      | refine Branch.neg (fun h => ?_) (fun h => ?_)
      | refine Branch.mk (fun h => ?_) (fun h => ?_)
      | (refine Side.mk ?_ ?_; · first | omega | decide)
      | (refine SideD.mk ?_ ?_; · first | omega | decide)
      | refine ⟨_, Nat.lt_succ_self _, To.refl (.inl ⟨rfl, ?_⟩)⟩
      | (refine Side.mk ?_ ?_; · (simp; done))
      | fail
      )
  all_goals (conv => whnf)
  all_goals first
    | (refine RetA.data rfl ⟨?_, rfl⟩; simp [one, con, *]; done)
    | skip
  all_goals
    refine ⟨L12 a b, a.l.length, To.gc [(0, true), (1, true)] [2, 3, 5] rfl ⟨datE rfl, datE rfl, trivial⟩ ⟨0, by omega, by omega, rfl, rfl, rfl⟩, ?_⟩
    rintro m fr H ⟨i, hi, rfl, hI, rfl, rfl⟩
    by_cases hil : i < a.l.length
    · have hat := acs_at i a.l hil
      repeat' ((conv => whnf); first
          | refine Branch.ofT rfl ?_
          | refine Branch.ofF rfl ?_
          | refine Branch.ofT (decide_eq_true (by omega)) ?_
          | refine Branch.dec (fun h => ?_) (fun h => ?_)
          | refine Branch.negdec (fun h => ?_) (fun h => ?_)
          | refine Branch.neg (fun h => ?_) (fun h => ?_)
          | refine Branch.mk (fun h => ?_) (fun h => ?_)
          | (refine Side.mk ?_ ?_; · first | omega | decide)
          | (refine SideD.mk ?_ ?_; · first | omega | decide)
          | refine ⟨_, Nat.lt_succ_self _, To.refl (.inl ⟨rfl, ?_⟩)⟩
          | (refine Side.mk ?_ ?_; · (simp; done))
          | fail
          )
      all_goals (conv => whnf)
      refine ⟨L12b a b i a.l[i], b.l.length, To.gc [(0, true), (1, true)] [2, 3, 5, 6] rfl ⟨datE rfl, datE rfl, trivial⟩ ⟨0, by omega, by omega, rfl, rfl, rfl⟩, ?_⟩
      rintro m fr H ⟨k, hk, rfl, hJ, rfl, rfl⟩
      by_cases hkl : k < b.l.length
      · have hbt := acs_at k b.l hkl
        have h29 := c29 a.l[i] b.l[k] (ha.2 i hil) (hb.2 k hkl)
        have hs := any_take (ovl a.l[i]) b.l k hkl
        repeat' ((conv => whnf); first
            | refine Branch.ofT rfl ?_
            | refine Branch.ofF rfl ?_
            | refine Branch.ofT (decide_eq_true (by omega)) ?_
            | refine Branch.dec (fun h => ?_) (fun h => ?_)
            | refine Branch.negdec (fun h => ?_) (fun h => ?_)
            | refine Branch.neg (fun h => ?_) (fun h => ?_)
            | refine Branch.mk (fun h => ?_) (fun h => ?_)
            | (refine Side.mk ?_ ?_; · first | omega | decide)
            | (refine SideD.mk ?_ ?_; · first | omega | decide)
            | refine ⟨_, Nat.lt_succ_self _, To.refl (.inl ⟨rfl, ?_⟩)⟩
            | refine tk3 hat ?_
            | refine tk3 hbt ?_
            | refine QCallA.of h29 rfl rfl ?_
            | (refine Side.mk ?_ ?_; · (simp; done))
            | fail
            )
        all_goals (conv => whnf)
        · refine RetA.data rfl ⟨?_, rfl⟩
          have : conA a b = true := any_at _ a.l i hil (any_at _ b.l k hkl h)
          simp [one, con, this]
        · exact ⟨b.l.length - (k + 1), by omega, To.gc [(0, true), (1, true)] [2, 3, 5, 6] rfl ⟨datE rfl, datE rfl, trivial⟩ ⟨k + 1, by omega, rfl, by rw [hs, hJ, h]; rfl, rfl, rfl⟩⟩
      · have : k = b.l.length := by omega
        subst this
        rw [List.take_length] at hJ
        have hs := any_take (fun x => b.l.any (ovl x)) a.l i hil
        repeat' ((conv => whnf); first
            | refine Branch.ofT rfl ?_
            | refine Branch.ofF rfl ?_
            | refine Branch.ofF (decide_eq_false (by omega)) ?_
            | refine Branch.dec (fun h => ?_) (fun h => ?_)
            | refine Branch.negdec (fun h => ?_) (fun h => ?_)
            | refine Branch.neg (fun h => ?_) (fun h => ?_)
            | refine Branch.mk (fun h => ?_) (fun h => ?_)
            | (refine Side.mk ?_ ?_; · first | omega | decide)
            | (refine SideD.mk ?_ ?_; · first | omega | decide)
            | refine ⟨_, Nat.lt_succ_self _, To.refl (.inl ⟨rfl, ?_⟩)⟩
            | (refine Side.mk ?_ ?_; · (simp; done))
            | fail
            )
        all_goals (conv => whnf)
        exact ⟨a.l.length - (i + 1), by omega, To.gc [(0, true), (1, true)] [2, 3, 5] rfl ⟨datE rfl, datE rfl, trivial⟩ ⟨i + 1, by omega, rfl, by rw [hs, hI, hJ]; rfl, rfl, rfl⟩⟩
    · have : i = a.l.length := by omega
      subst this
      rw [List.take_length] at hI
      repeat' ((conv => whnf); first
          | refine Branch.ofT rfl ?_
          | refine Branch.ofF rfl ?_
          | refine Branch.ofF (decide_eq_false (by omega)) ?_
          | refine Branch.dec (fun h => ?_) (fun h => ?_)
          | refine Branch.negdec (fun h => ?_) (fun h => ?_)
          | refine Branch.neg (fun h => ?_) (fun h => ?_)
          | refine Branch.mk (fun h => ?_) (fun h => ?_)
          | (refine Side.mk ?_ ?_; · first | omega | decide)
          | (refine SideD.mk ?_ ?_; · first | omega | decide)
          | refine ⟨_, Nat.lt_succ_self _, To.refl (.inl ⟨rfl, ?_⟩)⟩
          | (refine Side.mk ?_ ?_; · (simp; done))
          | fail
          )
      all_goals (conv => whnf)
      refine RetA.data rfl ⟨?_, rfl⟩
      simp [one, con, conA, *]
end Go.Proofs

namespace Go.Proofs
open Go Go.Eng
set_option maxRecDepth 100000
set_option maxHeartbeats 2000000
theorem _root_.Go.Eng.Into.extH {n : Nat} {fr : Fr} {H H' : Heap} (he : H.get = H'.get) (hx : H.nx = H'.nx) : Into n fr H fr H' := by
  intro N M μ w tmps R F hn
  exact ⟨M, μ, R.ext he hx, F, by omega, (Grow.refl _ _ _ _ _).ext he⟩
theorem _root_.Go.Eng.RetA.gce {n : Nat} {K : AV → Heap → Prop} {v : AV} {H : Heap} (keep : List (Nat × Bool)) (H2 : Heap) (hok : gcOk n keep = true) (hdata : allData H keep) (he : (gcH keep H).get = H2.get) (hx : (gcH keep H).nx = H2.nx) (h : K (ren (posOf keep) v) H2) : RetA n K v H :=
  ⟨_, H2, (Into.gc keep [0] hok hdata).trans (Into.extH he hx), h⟩
def idxf (p : Acc → Bool) : List Acc → Nat → Int
  | [], _ => -1
  | x :: r, i => if p x = true then (i : Int) else idxf p r (i + 1)
theorem idxf_at (p : Acc → Bool) (l : List Acc) (i : Nat) (h : i < l.length) : idxf p (l.drop i) i = if p l[i] = true then (i : Int) else idxf p (l.drop (i + 1)) (i + 1) := by
  rw [List.drop_eq_getElem_cons h, idxf]
theorem idxf_any (p : Acc → Bool) : ∀ (l : List Acc) (i : Nat), decide (0 ≤ idxf p l i) = l.any p
  | [], i => by simp [idxf]
  | x :: r, i => by
    simp only [idxf, List.any_cons]
    by_cases hp : p x = true
    · simp [hp]
    · have := idxf_any p r (i + 1)
      simp only [if_neg hp, this, Bool.not_eq_true] at hp ⊢
      simp [hp]
def L43 {H : Heap} (l : List Acc) (cap : Option Nat) (f : FuncId) (caps : List AV) (p : Acc → Bool) (m : Nat) (fr : Fr) (H' : Heap) : Prop := ∃ i : Nat, i ≤ l.length ∧ m = l.length - i ∧ idxf p (l.drop i) i = idxf p l 0 ∧ fr = [(0, .dslice (acs l) l.length cap), (1, .func f caps), (7, I l.length), (8, I i)] ∧ H' = H
theorem c43 {H : Heap} (l : List Acc) (cap : Option Nat) (f : FuncId) (caps : List AV) (p : Acc → Bool) (hf : ∀ k (h : k < l.length) (K : AV → Heap → Prop), K (.bool (p l[k])) H → CallA Try.prog f (acv l[k] :: caps) H K) (hl : l.length ≤ 1000) :
    CallA Try.prog 43 [.dslice (acs l) l.length cap, .func f caps] H fun v H' => v = I (idxf p l 0) ∧ H' = H := by
  refine callA_of ok43 (Nat.le_of_ble_eq_true rfl) ?_
  repeat' ((conv => whnf); first
      | refine Branch.ofT rfl ?_
      | refine Branch.ofF rfl ?_
      | refine Branch.dec (fun h => ?_) (fun h => ?_)
      | refine Branch.negdec (fun h => ?_) (fun h => ?_)
      | refine Branch.neg (fun h => ?_) (fun h => ?_)
      | refine Branch.mk (fun h => ?_) (fun h => ?_)
      | (refine Side.mk ?_ ?_; · first | omega | decide)
      | (refine SideD.mk ?_ ?_; · first | omega | decide)
      | refine ⟨_, Nat.lt_succ_self _, To.refl (.inl ⟨rfl, ?_⟩)⟩
      | (refine Side.mk ?_ ?_; · (simp; done))
      | fail
      )
  all_goals (conv => whnf)
  refine ⟨L43 (H := H) l cap f caps p, l.length, To.slots [0, 1, 7, 8] ⟨0, by omega, by omega, by rw [List.drop_zero], rfl, rfl⟩, ?_⟩
  rintro m fr H' ⟨i, hi, rfl, hI, rfl, rfl⟩
  by_cases hil : i < l.length
  · have hat := acs_at i l hil
    have hs := idxf_at p l i hil
    repeat' ((conv => whnf); first
        | refine Branch.ofT rfl ?_
        | refine Branch.ofF rfl ?_
        | refine Branch.ofT (decide_eq_true (by omega)) ?_
        | refine Branch.dec (fun h => ?_) (fun h => ?_)
        | refine Branch.negdec (fun h => ?_) (fun h => ?_)
        | refine Branch.neg (fun h => ?_) (fun h => ?_)
        | refine Branch.mk (fun h => ?_) (fun h => ?_)
        | (refine Side.mk ?_ ?_; · first | omega | decide)
        | (refine SideD.mk ?_ ?_; · first | omega | decide)
        | refine ⟨_, Nat.lt_succ_self _, To.refl (.inl ⟨rfl, ?_⟩)⟩
        | refine tk3 hat ?_
        | refine hf i hil _ ?_
        | (refine Side.mk ?_ ?_; · (simp; done))
        | fail
        )
    all_goals (conv => whnf)
    · rw [hs, if_pos h] at hI
      rw [← hI]
      exact RetA.same ⟨rfl, rfl⟩
    · rw [hs, if_neg (by rw [h]; simp)] at hI
      exact ⟨l.length - (i + 1), by omega, To.slots [0, 1, 7, 8] ⟨i + 1, by omega, rfl, hI, rfl, rfl⟩⟩
  · have : i = l.length := by omega
    subst this
    repeat' ((conv => whnf); first
        | refine Branch.ofT rfl ?_
        | refine Branch.ofF rfl ?_
        | refine Branch.ofF (decide_eq_false (by omega)) ?_
        | refine Branch.dec (fun h => ?_) (fun h => ?_)
        | refine Branch.negdec (fun h => ?_) (fun h => ?_)
        | refine Branch.neg (fun h => ?_) (fun h => ?_)
        | refine Branch.mk (fun h => ?_) (fun h => ?_)
        | (refine Side.mk ?_ ?_; · first | omega | decide)
        | (refine SideD.mk ?_ ?_; · first | omega | decide)
        | refine ⟨_, Nat.lt_succ_self _, To.refl (.inl ⟨rfl, ?_⟩)⟩
        | (refine Side.mk ?_ ?_; · (simp; done))
        | fail
        )
    all_goals (conv => whnf)
    rw [List.drop_length, idxf] at hI
    rw [← hI]
    exact RetA.same ⟨rfl, rfl⟩
theorem c25 {H : Heap} (l : List Acc) (cap : Option Nat) (f : FuncId) (caps : List AV) (p : Acc → Bool) (hf : ∀ k (h : k < l.length) (K : AV → Heap → Prop), K (.bool (p l[k])) H → CallA Try.prog f (acv l[k] :: caps) H K) (hl : l.length ≤ 1000) :
    CallA Try.prog 25 [.dslice (acs l) l.length cap, .func f caps] H fun v H' => v = .bool (l.any p) ∧ H' = H := by
  refine callA_of ok25 (Nat.le_of_ble_eq_true rfl) ?_
  repeat' ((conv => whnf); first
      | refine Branch.ofT rfl ?_
      | refine Branch.ofF rfl ?_
      | refine Branch.dec (fun h => ?_) (fun h => ?_)
      | refine Branch.negdec (fun h => ?_) (fun h => ?_)
      | refine Branch.neg (fun h => ?_) (fun h => ?_)
      | refine Branch.mk (fun h => ?_) (fun h => ?_)
      | (refine Side.mk ?_ ?_; · first | omega | decide)
      | (refine SideD.mk ?_ ?_; · first | omega | decide)
      | refine ⟨_, Nat.lt_succ_self _, To.refl (.inl ⟨rfl, ?_⟩)⟩
      | (refine CallA.mono (c43 l cap f caps p hf hl) ?_; rintro _ _ ⟨rfl, rfl⟩)
      | (refine Side.mk ?_ ?_; · (simp; done))
      | fail
      )
  all_goals (conv => whnf)
  refine RetA.same ⟨?_, rfl⟩
  rw [← idxf_any p l 0]
  rfl
def eva (a : Ev) : List AV := [I a.cpu, .bool a.bd, .dslice (acs a.l) a.l.length a.cap]
def H11 (a b : Ev) : Heap := ⟨2, [(1, .cells (eva b)), (0, .cells (eva a))]⟩
def H11x (a b : Ev) (x : Acc) : Heap := ⟨3, [(2, .cells [I x.a, I x.s, .bool x.st]), (1, .cells (eva b)), (0, .cells (eva a))]⟩
theorem c27 (a b : Ev) (x y : Acc) (hx : x.ok) (hy : y.ok) {K : AV → Heap → Prop} (hk : K (.bool (ovl x y)) (H11x a b x)) : CallA Try.prog 27 [acv y, .ptr 2 0] (H11x a b x) K := by
  refine callA_of ok27 (Nat.le_of_ble_eq_true rfl) ?_
  repeat' ((conv => whnf); first
      | refine Branch.ofT rfl ?_
      | refine Branch.ofF rfl ?_
      | refine Branch.dec (fun h => ?_) (fun h => ?_)
      | refine Branch.negdec (fun h => ?_) (fun h => ?_)
      | refine Branch.neg (fun h => ?_) (fun h => ?_)
      | refine Branch.mk (fun h => ?_) (fun h => ?_)
      | (refine Side.mk ?_ ?_; · first | omega | decide)
      | (refine SideD.mk ?_ ?_; · first | omega | decide)
      | refine ⟨_, Nat.lt_succ_self _, To.refl (.inl ⟨rfl, ?_⟩)⟩
      | refine CallA.pure (c28 x y hx hy) rfl rfl ?_
      | (refine Side.mk ?_ ?_; · (simp; done))
      | fail
      )
  all_goals (conv => whnf)
  exact RetA.gce [(0, true), (1, true), (2, true)] (H11x a b x) rfl ⟨datE rfl, datE rfl, datE rfl, trivial⟩ (funext fun j => match j with | 0 => rfl | 1 => rfl | 2 => rfl | j + 3 => rfl) rfl hk
theorem c26 (a b : Ev) (x : Acc) (hx : x.ok) (hb : b.ok) {K : AV → Heap → Prop} (hk : K (.bool (b.l.any (ovl x))) (H11 a b)) : CallA Try.prog 26 [acv x, .ptr 1 0] (H11 a b) K := by
  have hb1 := hb.1
  refine callA_of ok26 (Nat.le_of_ble_eq_true rfl) ?_
  repeat' ((conv => whnf); first
      | refine Branch.ofT rfl ?_
      | refine Branch.ofF rfl ?_
      | refine Branch.dec (fun h => ?_) (fun h => ?_)
      | refine Branch.negdec (fun h => ?_) (fun h => ?_)
      | refine Branch.neg (fun h => ?_) (fun h => ?_)
      | refine Branch.mk (fun h => ?_) (fun h => ?_)
      | (refine Side.mk ?_ ?_; · first | omega | decide)
      | (refine SideD.mk ?_ ?_; · first | omega | decide)
      | refine ⟨_, Nat.lt_succ_self _, To.refl (.inl ⟨rfl, ?_⟩)⟩
      | (refine CallA.mono (c25 (H := H11x a b x) b.l b.cap 27 [.ptr 2 0] (ovl x) (fun k h K hk => c27 a b x b.l[k] hx (hb.2 k h) hk) (by omega)) ?_; rintro _ _ ⟨rfl, rfl⟩)
      | (refine Side.mk ?_ ?_; · (simp; done))
      | fail
      )
  all_goals (conv => whnf)
  exact RetA.gce [(0, true), (1, true)] (H11 a b) rfl ⟨datE rfl, datE rfl, trivial⟩ (funext fun j => match j with | 0 => rfl | 1 => rfl | j + 2 => rfl) rfl hk
theorem c11 (a b : Ev) (ha : a.ok) (hb : b.ok) : CallA Try.prog 11 [evv a, evv b] Heap.nil fun v H' => v = .bool (con a b) ∧ H' = Heap.nil := by
  have ha1 := ha.1
  refine callA_of ok11 (Nat.le_of_ble_eq_true rfl) ?_
  repeat' ((conv => whnf); first
      | refine Branch.ofT rfl ?_
      | refine Branch.ofF rfl ?_
      | refine Branch.dec (fun h => ?_) (fun h => ?_)
      | refine Branch.negdec (fun h => ?_) (fun h => ?_)
      | refine Branch.neg (fun h => ?_) (fun h => ?_)
      | refine Branch.mk (fun h => ?_) (fun h => ?_)
      | (refine Side.mk ?_ ?_; · first | omega | decide)
      | (refine SideD.mk ?_ ?_; · first | omega | decide)
      | refine ⟨_, Nat.lt_succ_self _, To.refl (.inl ⟨rfl, ?_⟩)⟩
      | (refine CallA.mono (c25 (H := H11 a b) a.l a.cap 26 [.ptr 1 0] (fun x => b.l.any (ovl x)) (fun k h K hk => c26 a b a.l[k] (ha.2 k h) hb hk) (by omega)) ?_; rintro _ _ ⟨rfl, rfl⟩)
      | (refine Side.mk ?_ ?_; · (simp; done))
      | fail
      )
  all_goals (conv => whnf)
  all_goals
    refine RetA.data rfl ⟨?_, rfl⟩
    simp [one, con, conA, *]
end Go.Proofs

namespace Go.Proofs
open Go Go.Eng
set_option maxRecDepth 100000
set_option maxHeartbeats 2000000
theorem w64 (n : Int) : IntKind.u64.wrap n = n % 18446744073709551616 := by
  have : IntKind.u64.wrap n = if IntKind.u64.signed then (let r := n % 2 ^ IntKind.u64.bits; if r < 2 ^ (IntKind.u64.bits - 1) then r else r - 2 ^ IntKind.u64.bits) else n % 2 ^ IntKind.u64.bits := by
    first | rfl | (simp [IntKind.wrap])
  rw [this]
  rfl
theorem ofInt64 (a : Nat) : (BitVec.ofInt 64 (a : Int)) = BitVec.ofNat 64 a := by simp
theorem uand {a b : Nat} (ha : a < 18446744073709551616) (hb : b < 18446744073709551616) : IntKind.u64.wrap (BitVec.ofInt IntKind.u64.bits (a : Int) &&& BitVec.ofInt IntKind.u64.bits (b : Int)).toNat = ((a &&& b : Nat) : Int) := by
  show IntKind.u64.wrap (BitVec.ofInt 64 (a : Int) &&& BitVec.ofInt 64 (b : Int)).toNat = _
  rw [w64, ofInt64, ofInt64, BitVec.toNat_and, BitVec.toNat_ofNat, BitVec.toNat_ofNat, Nat.mod_eq_of_lt (by omega), Nat.mod_eq_of_lt (by omega)]
  have := Nat.and_le_left (n := a) (m := b)
  omega
theorem uor {a b : Nat} (ha : a < 18446744073709551616) (hb : b < 18446744073709551616) : IntKind.u64.wrap (BitVec.ofInt IntKind.u64.bits (a : Int) ||| BitVec.ofInt IntKind.u64.bits (b : Int)).toNat = ((a ||| b : Nat) : Int) := by
  show IntKind.u64.wrap (BitVec.ofInt 64 (a : Int) ||| BitVec.ofInt 64 (b : Int)).toNat = _
  rw [w64, ofInt64, ofInt64, BitVec.toNat_or, BitVec.toNat_ofNat, BitVec.toNat_ofNat, Nat.mod_eq_of_lt (by omega), Nat.mod_eq_of_lt (by omega)]
  have : a ||| b < 2 ^ 64 := Nat.or_lt_two_pow (by omega) (by omega)
  omega
abbrev U (n : Nat) : AV := .int .u64 (n : Int)
/-- A set of places below 64, by its bits. -/
def setc (S : Nat) : List AV := [U S, .int .u64 0, .int .u64 0, .int .u64 0, .int .u64 0, .int .u64 0, .int .u64 0]
theorem drop64 {i : Nat} (hi : i < 64) (cs : List AV) : List.drop (((i : Int) / 64).toNat * 1) cs = cs := by
  have : ((i : Int) / 64).toNat = 0 := by omega
  rw [this]; rfl
theorem shrU (S i : Nat) (hi : i < 64) : (S : Int).fdiv (2 ^ min ((i : Int) % 64).toNat 64) = ((S / 2 ^ i : Nat) : Int) := by
  have e : min ((i : Int) % 64).toNat 64 = i := by omega
  rw [e, Int.fdiv_eq_ediv_of_nonneg _ (by exact Int.le_of_lt (Int.pow_pos (by decide)))]
  push_cast
  rfl
theorem has_eq (S i : Nat) (hS : S < 18446744073709551616) (hi : i < 64) : decide (IntKind.u64.wrap (BitVec.ofInt IntKind.u64.bits ((S : Int).fdiv (2 ^ min ((i : Int) % 64).toNat 64)) &&& BitVec.ofInt IntKind.u64.bits 1).toNat = 1) = S.testBit i := by
  have h1 : S / 2 ^ i < 18446744073709551616 := Nat.lt_of_le_of_lt (Nat.div_le_self _ _) hS
  rw [shrU S i hi]
  have := uand h1 (show 1 < 18446744073709551616 by decide)
  rw [show ((1 : Nat) : Int) = 1 from rfl] at this
  rw [this, Nat.testBit_eq_decide_div_mod_eq, Nat.and_one_is_mod]
  by_cases h : S / 2 ^ i % 2 = 1
  · simp [h]
  · have : S / 2 ^ i % 2 = 0 := by omega
    simp [this]
theorem c31 (S i : Nat) (rest : List AV) (hS : S < 18446744073709551616) (hi : i < 64) : CallA Try.prog 31 [.dptr (setc S ++ rest), I i] Heap.nil fun v H' => v = .bool (S.testBit i) ∧ H' = Heap.nil := by
  refine callA_of ok31 (Nat.le_of_ble_eq_true rfl) ?_
  repeat' ((conv => whnf); first
      | refine Branch.ofT rfl ?_
      | refine Branch.ofF rfl ?_
      | refine SideD.at (by omega) (drop64 hi _) ?_
      | refine Branch.dec (fun h => ?_) (fun h => ?_)
      | refine Branch.negdec (fun h => ?_) (fun h => ?_)
      | refine Branch.neg (fun h => ?_) (fun h => ?_)
      | refine Branch.mk (fun h => ?_) (fun h => ?_)
      | (refine Side.mk ?_ ?_; · first | omega | decide)
      | (refine SideD.mk ?_ ?_; · first | omega | decide)
      | refine ⟨_, Nat.lt_succ_self _, To.refl (.inl ⟨rfl, ?_⟩)⟩
      | (refine Side.mk ?_ ?_; · (simp; done))
      | fail
      )
  all_goals (conv => whnf)
  refine RetA.data rfl ⟨?_, rfl⟩
  rw [← has_eq S i hS hi]
  rfl
end Go.Proofs

namespace Go.Proofs
open Go Go.Eng
set_option maxRecDepth 100000
set_option maxHeartbeats 2000000
def sets : List Nat → List AV
  | [] => []
  | s :: r => setc s ++ sets r
theorem sets_len : ∀ l : List Nat, (sets l).length = l.length * 7
  | [] => rfl
  | s :: r => by simp only [sets, List.length_append, sets_len r, List.length_cons]; show 7 + _ = _; omega
theorem sets_at : ∀ (k : Nat) (l : List Nat) (h : k < l.length), (sets l).drop (k * 7) = setc l[k] ++ sets (l.drop (k + 1))
  | 0, x :: r, _ => rfl
  | k + 1, x :: r, h => by
    have e : (k + 1) * 7 = k * 7 + 7 := by omega
    rw [e]
    show (sets r).drop (k * 7) = _
    rw [sets_at k r (by simpa using h)]
    rfl
theorem sets_put : ∀ (k : Nat) (l : List Nat) (h : k < l.length) (v : Nat), (sets l).take (k * 7) ++ [U v] ++ (sets l).drop (k * 7 + 1) = sets (l.set k v)
  | 0, x :: r, _, v => rfl
  | k + 1, x :: r, h, v => by
    have e : (k + 1) * 7 = k * 7 + 7 := by omega
    have ih := sets_put k r (by simpa using h) v
    rw [e]
    show setc x ++ (sets r).take (k * 7) ++ [U v] ++ (sets r).drop (k * 7 + 1) = setc x ++ sets (r.set k v)
    rw [← ih]
    simp only [List.append_assoc]
theorem sets_noLoc : ∀ (l : List Nat), ∀ c ∈ sets l, noLoc c = true
  | [], c, h => by cases h
  | x :: r, c, h => by
    simp only [sets, List.mem_append] at h
    rcases h with h | h
    · exact List.all_eq_true.1 (show (setc x).all noLoc = true from rfl) c h
    · exact sets_noLoc r c h
theorem sets_scal : ∀ (l : List Nat), ∀ c ∈ sets l, scal c = true
  | [], c, h => by cases h
  | x :: r, c, h => by
    simp only [sets, List.mem_append] at h
    rcases h with h | h
    · exact List.all_eq_true.1 (show (setc x).all scal = true from rfl) c h
    · exact sets_scal r c h
theorem off64 {i : Nat} (hi : i < 64) (k : Nat) : k * 7 + ((i : Int) / 64).toNat * 1 = k * 7 := by omega
theorem pow64 {i : Nat} (hi : i < 64) : 2 ^ i < 18446744073709551616 := by
  have h : 2 ^ i < 2 ^ 64 := Nat.pow_lt_pow_right (by decide) hi
  exact h
theorem shlU (i : Nat) (hi : i < 64) : IntKind.u64.wrap (1 * 2 ^ min ((i : Int) % 64).toNat 64) = ((2 ^ i : Nat) : Int) := by
  have e : min ((i : Int) % 64).toNat 64 = i := by omega
  have h := pow64 hi
  rw [w64, e, Int.one_mul]
  have : ((2 : Int) ^ i) = ((2 ^ i : Nat) : Int) := by push_cast; rfl
  rw [this]
  generalize (2 ^ i : Nat) = q at h
  omega
theorem or64 {a b : Nat} (ha : a < 18446744073709551616) (hb : b < 18446744073709551616) : a ||| b < 18446744073709551616 := Nat.or_lt_two_pow (n := 64) ha hb
theorem add_eq (S i : Nat) (hS : S < 18446744073709551616) (hi : i < 64) : IntKind.u64.wrap (BitVec.ofInt IntKind.u64.bits (S : Int) ||| BitVec.ofInt IntKind.u64.bits (IntKind.u64.wrap (1 * 2 ^ min ((i : Int) % 64).toNat 64))).toNat = ((S ||| 2 ^ i : Nat) : Int) := by
  rw [shlU i hi]
  exact uor hS (pow64 hi)
theorem lput_set {l : List Nat} {k off : Nat} (h : k < l.length) (ho : off = k * 7) (v : Int) (u : Nat) (hv : v = (u : Int)) {K : List AV → Prop} (hk : K (sets (l.set k u))) : lputK (sets l) off [.int .u64 v] K := by
  subst ho; subst hv
  refine lputK_eq ?_ rfl ?_
  · rw [sets_len]; simp; omega
  · rw [show k * 7 + [AV.int IntKind.u64 (u : Int)].length = k * 7 + 1 from rfl, sets_put k l h u]; exact hk
theorem nth_set {l : List Nat} {k off : Nat} (h : k < l.length) (ho : off = k * 7) {K : AV → Prop} (hk : K (U l[k])) : nthK 0 ((sets l).drop off) K := by
  subst ho
  exact nthK_at (sets_at k l h) (by rw [fv_eq]; exact hk)
theorem c36 (l : List Nat) (k i : Nat) (hk : k < l.length) (hl : l.length ≤ 1000) (hS : l[k] < 18446744073709551616) (hi : i < 64) : CallA Try.prog 36 [.ptr 0 (k * 7), I i] ⟨1, [(0, .cells (sets l))]⟩ fun v H' => v = .tuple [] ∧ H' = ⟨1, [(0, .cells (sets (l.set k (l[k] ||| 2 ^ i))))]⟩ := by
  refine callA_of ok36 (Nat.le_of_ble_eq_true rfl) ?_
  repeat' ((conv => whnf); first
      | refine Branch.ofT rfl ?_
      | refine Branch.ofF rfl ?_
      | refine Branch.dec (fun h => ?_) (fun h => ?_)
      | refine Branch.negdec (fun h => ?_) (fun h => ?_)
      | refine Branch.neg (fun h => ?_) (fun h => ?_)
      | refine Branch.mk (fun h => ?_) (fun h => ?_)
      | (refine Side.mk ?_ ?_; · first | omega | decide)
      | (refine SideD.mk ?_ ?_; · first | omega | decide)
      | refine ⟨_, Nat.lt_succ_self _, To.refl (.inl ⟨rfl, ?_⟩)⟩
      | refine nth_set hk (off64 hi k) ?_
      | refine lput_set hk (off64 hi k) _ _ (add_eq _ i hS hi) ?_
      | (refine Side.mk ?_ ?_; · (simp; done))
      | fail
      )
  all_goals (conv => whnf)
  exact RetA.gc [(0, true)] rfl ⟨fun c hc => sets_noLoc _ c hc, trivial⟩ ⟨rfl, rfl⟩
end Go.Proofs

namespace Go.Proofs
open Go Go.Eng
set_option maxRecDepth 100000
set_option maxHeartbeats 2000000
abbrev Z : AV := .int .u64 0
theorem setc_drop {S i : Nat} (h1 : 1 ≤ i) (h7 : i < 7) : (setc S).drop i = Z :: (setc S).drop (i + 1) := by
  have : i = 1 ∨ i = 2 ∨ i = 3 ∨ i = 4 ∨ i = 5 ∨ i = 6 := by omega
  rcases this with rfl | rfl | rfl | rfl | rfl | rfl <;> rfl
theorem sets_drop {l : List Nat} {k i : Nat} (h : k < l.length) (h7 : i ≤ 7) : (sets l).drop (k * 7 + i) = (setc l[k]).drop i ++ sets (l.drop (k + 1)) := by
  rw [← List.drop_drop, sets_at k l h, List.drop_append_of_le_length (by show i ≤ 7; exact h7)]
theorem sets_zero {l : List Nat} {k i : Nat} (h : k < l.length) (h1 : 1 ≤ i) (h7 : i < 7) : (sets l).drop (k * 7 + i) = Z :: (sets l).drop (k * 7 + i + 1) := by
  rw [Nat.add_assoc, sets_drop h (by omega), sets_drop h (by omega), setc_drop h1 h7]
  rfl
theorem nth_zero {l : List Nat} {k off i : Nat} (h : k < l.length) (h1 : 1 ≤ i) (h7 : i < 7) (ho : off = k * 7 + i) {K : AV → Prop} (hk : K Z) : nthK 0 ((sets l).drop off) K := by
  subst ho
  exact nthK_at (sets_zero h h1 h7) (by rw [fv_eq]; exact hk)
theorem nth_c {S off i : Nat} (h1 : 1 ≤ i) (h7 : i < 7) (ho : off = i) {K : AV → Prop} (hk : K Z) : nthK 0 ((setc S).drop off) K := by
  subst ho
  exact nthK_at (setc_drop h1 h7) (by rw [fv_eq]; exact hk)
theorem lput_zero {l : List Nat} {k off i : Nat} (h : k < l.length) (h1 : 1 ≤ i) (h7 : i < 7) (ho : off = k * 7 + i) (v : Int) (hv : v = 0) {K : List AV → Prop} (hk : K (sets l)) : lputK (sets l) off [.int .u64 v] K := by
  subst ho; subst hv
  refine lputK_eq ?_ rfl ?_
  · rw [sets_len]; simp; omega
  · have e := sets_zero h h1 h7
    rw [show k * 7 + i + [AV.int IntKind.u64 0].length = k * 7 + i + 1 from rfl, List.append_assoc, List.singleton_append, ← e, List.take_append_drop]
    exact hk
theorem or0 : IntKind.u64.wrap (BitVec.ofInt IntKind.u64.bits 0 ||| BitVec.ofInt IntKind.u64.bits 0).toNat = 0 := uor (a := 0) (b := 0) (by decide) (by decide)
def orH (l : List Nat) (k T i : Nat) : List Nat := if i = 0 then l else l.set k (l[k]! ||| T)
def L32 (l : List Nat) (k T : Nat) (m : Nat) (fr : Fr) (H : Heap) : Prop := ∃ i : Nat, i ≤ 7 ∧ m = 7 - i ∧ fr = [(0, .ptr 0 (k * 7)), (3, .ptr 1 0), (5, I i)] ∧ H = ⟨2, [(0, .cells (sets (orH l k T i))), (1, .cells (setc T))]⟩
theorem c32 (l : List Nat) (k T : Nat) (hk : k < l.length) (hS : l[k] < 18446744073709551616) (hT : T < 18446744073709551616) : CallA Try.prog 32 [.ptr 0 (k * 7), .agg (setc T)] ⟨1, [(0, .cells (sets l))]⟩ fun v H' => v = .tuple [] ∧ H' = ⟨1, [(0, .cells (sets (l.set k (l[k] ||| T))))]⟩ := by
  have dS : ∀ l, dataB (.cells (sets l)) := fun l c hc => sets_noLoc l c hc
  have dT : dataB (.cells (setc T)) := datE rfl
  have hg : l[k]! = l[k] := by simp [hk]
  refine callA_of ok32 (Nat.le_of_ble_eq_true rfl) ?_
  repeat' ((conv => whnf); first
      | refine Branch.ofT rfl ?_
      | refine Branch.ofF rfl ?_
      | refine Branch.dec (fun h => ?_) (fun h => ?_)
      | refine Branch.negdec (fun h => ?_) (fun h => ?_)
      | refine Branch.neg (fun h => ?_) (fun h => ?_)
      | refine Branch.mk (fun h => ?_) (fun h => ?_)
      | (refine Side.mk ?_ ?_; · first | omega | decide)
      | (refine SideD.mk ?_ ?_; · first | omega | decide)
      | refine ⟨_, Nat.lt_succ_self _, To.refl (.inl ⟨rfl, ?_⟩)⟩
      | (refine Side.mk ?_ ?_; · (simp; done))
      | fail
      )
  all_goals (conv => whnf)
  refine ⟨L32 l k T, 7, To.gc [(0, true), (1, true)] [0, 3, 5] rfl ⟨dS l, dT, trivial⟩ ⟨0, by omega, rfl, rfl, rfl⟩, ?_⟩
  rintro m fr H ⟨i, hi, rfl, rfl, rfl⟩
  by_cases hil : i < 7
  · by_cases h0 : i = 0
    · subst h0
      repeat' ((conv => whnf); first
          | refine Branch.ofT rfl ?_
          | refine Branch.ofF rfl ?_
          | refine Branch.dec (fun h => ?_) (fun h => ?_)
          | refine Branch.negdec (fun h => ?_) (fun h => ?_)
          | refine Branch.neg (fun h => ?_) (fun h => ?_)
          | refine Branch.mk (fun h => ?_) (fun h => ?_)
          | (refine Side.mk ?_ ?_; · first | omega | decide)
          | (refine SideD.mk ?_ ?_; · first | omega | decide)
          | refine ⟨_, Nat.lt_succ_self _, To.refl (.inl ⟨rfl, ?_⟩)⟩
          | refine nth_set hk (by omega) ?_
          | refine lput_set hk (by omega) _ _ (uor hS hT) ?_
          | (refine Side.mk ?_ ?_; · (simp; done))
          | fail
          )
      all_goals (conv => whnf)
      refine ⟨6, by omega, To.gc [(0, true), (1, true)] [0, 3, 5] rfl ⟨dS _, dT, trivial⟩ ⟨1, by omega, rfl, rfl, ?_⟩⟩
      simp only [orH, hg, if_neg (show ¬ (1 = 0) by decide)]
      rfl
    · have hk' : k < (orH l k T i).length := by simp only [orH, if_neg h0]; simpa using hk
      repeat' ((conv => whnf); first
          | refine Branch.ofT rfl ?_
          | refine Branch.ofF rfl ?_
          | refine Branch.ofT (decide_eq_true (by omega)) ?_
          | refine Branch.dec (fun h => ?_) (fun h => ?_)
          | refine Branch.negdec (fun h => ?_) (fun h => ?_)
          | refine Branch.neg (fun h => ?_) (fun h => ?_)
          | refine Branch.mk (fun h => ?_) (fun h => ?_)
          | (refine Side.mk ?_ ?_; · first | omega | decide)
          | (refine SideD.mk ?_ ?_; · first | omega | decide)
          | refine ⟨_, Nat.lt_succ_self _, To.refl (.inl ⟨rfl, ?_⟩)⟩
          | refine nth_zero hk' (i := i) (by omega) hil (by omega) ?_
          | refine nth_c (i := i) (by omega) hil (by omega) ?_
          | refine lput_zero hk' (i := i) (by omega) hil (by omega) _ or0 ?_
          | (refine Side.mk ?_ ?_; · (simp; done))
          | fail
          )
      all_goals (conv => whnf)
      refine ⟨7 - (i + 1), by omega, To.gc [(0, true), (1, true)] [0, 3, 5] rfl ⟨dS _, dT, trivial⟩ ⟨i + 1, by omega, rfl, rfl, ?_⟩⟩
      simp only [orH, if_neg h0, if_neg (Nat.succ_ne_zero i)]
      rfl
  · have : i = 7 := by omega
    subst this
    repeat' ((conv => whnf); first
        | refine Branch.ofT rfl ?_
        | refine Branch.ofF rfl ?_
        | refine Branch.dec (fun h => ?_) (fun h => ?_)
        | refine Branch.negdec (fun h => ?_) (fun h => ?_)
        | refine Branch.neg (fun h => ?_) (fun h => ?_)
        | refine Branch.mk (fun h => ?_) (fun h => ?_)
        | (refine Side.mk ?_ ?_; · first | omega | decide)
        | (refine SideD.mk ?_ ?_; · first | omega | decide)
        | refine ⟨_, Nat.lt_succ_self _, To.refl (.inl ⟨rfl, ?_⟩)⟩
        | (refine Side.mk ?_ ?_; · (simp; done))
        | fail
        )
    all_goals (conv => whnf)
    refine RetA.gc [(0, true)] rfl ⟨dS _, trivial⟩ ⟨rfl, ?_⟩
    simp only [orH, hg]
    rfl
end Go.Proofs

namespace Go.Proofs
open Go Go.Eng
set_option maxRecDepth 100000
set_option maxHeartbeats 4000000
theorem c36o (l : List Nat) (k off i : Nat) (ho : off = k * 7) (hk : k < l.length) (hl : l.length ≤ 1000) (hS : l[k] < 18446744073709551616) (hi : i < 64) : CallA Try.prog 36 [.ptr 0 off, I i] ⟨1, [(0, .cells (sets l))]⟩ fun v H' => v = .tuple [] ∧ H' = ⟨1, [(0, .cells (sets (l.set k (l[k] ||| 2 ^ i))))]⟩ := by
  subst ho; exact c36 l k i hk hl hS hi
theorem c32o (l : List Nat) (k off T : Nat) (ho : off = k * 7) (hk : k < l.length) (hS : l[k] < 18446744073709551616) (hT : T < 18446744073709551616) : CallA Try.prog 32 [.ptr 0 off, .agg (setc T)] ⟨1, [(0, .cells (sets l))]⟩ fun v H' => v = .tuple [] ∧ H' = ⟨1, [(0, .cells (sets (l.set k (l[k] ||| T))))]⟩ := by
  subst ho; exact c32 l k T hk hS hT
theorem tk7 {l : List Nat} {k off : Nat} (h : k < l.length) (ho : off = k * 7) {K : List AV → Prop} (hk : K (setc l[k])) : takeK 7 ((sets l).drop off) K := by
  subst ho
  rw [sets_at k l h, takeK_eq _ _ _ (by show 7 ≤ (setc l[k] ++ _).length; rw [List.length_append]; show 7 ≤ 7 + _; omega)]
  exact hk
instance : Inhabited Ev := ⟨⟨0, false, [], none⟩⟩
/-- The earlier places that conflict with this one. -/
def dset (l : List Ev) (k : Nat) : Nat → Nat
  | 0 => 0
  | i + 1 => if con l[i]! l[k]! = true then dset l k i ||| 2 ^ i else dset l k i
/-- Those from which there is a way. -/
def wset (W : List Nat) (l : List Ev) (k : Nat) : Nat → Nat
  | 0 => 0
  | i + 1 => if con l[i]! l[k]! = true then (wset W l k i ||| 2 ^ i) ||| W[i]! else wset W l k i
def ds (l : List Ev) : Nat → List Nat
  | 0 => []
  | k + 1 => ds l k ++ [dset l k k]
def ws (l : List Ev) : Nat → List Nat
  | 0 => []
  | k + 1 => ws l k ++ [wset (ws l k) l k k]
theorem ds_len (l : List Ev) : ∀ k, (ds l k).length = k
  | 0 => rfl
  | k + 1 => by simp only [ds, List.length_append, ds_len l k]; rfl
theorem ws_len (l : List Ev) : ∀ k, (ws l k).length = k
  | 0 => rfl
  | k + 1 => by simp only [ws, List.length_append, ws_len l k]; rfl
theorem dset_lt (l : List Ev) (k : Nat) : ∀ i, i ≤ 64 → dset l k i < 18446744073709551616
  | 0, _ => show 0 < 18446744073709551616 by decide
  | i + 1, h => by
    have ih := dset_lt l k i (by omega)
    simp only [dset]
    split
    · exact or64 ih (pow64 (by omega))
    · exact ih
theorem wset_lt (W : List Nat) (hW : ∀ x ∈ W, x < 18446744073709551616) (l : List Ev) (k : Nat) : ∀ i, i ≤ 64 → i ≤ W.length → wset W l k i < 18446744073709551616
  | 0, _, _ => show 0 < 18446744073709551616 by decide
  | i + 1, h, h2 => by
    have ih := wset_lt W hW l k i (by omega) (by omega)
    simp only [wset]
    split
    · refine or64 (or64 ih (pow64 (by omega))) ?_
      have : i < W.length := by omega
      rw [getElem!_pos W i this]
      exact hW _ (List.getElem_mem this)
    · exact ih
theorem ws_lt (l : List Ev) : ∀ k, k ≤ 64 → ∀ x ∈ ws l k, x < 18446744073709551616
  | 0, _, x, h => by cases h
  | k + 1, hk, x, h => by
    simp only [ws, List.mem_append, List.mem_singleton] at h
    have ih := ws_lt l k (by omega)
    rcases h with h | rfl
    · exact ih x h
    · exact wset_lt _ ih l k k (by omega) (by rw [ws_len]; exact Nat.le_refl _)
theorem ds_lt (l : List Ev) : ∀ k, k ≤ 64 → ∀ x ∈ ds l k, x < 18446744073709551616
  | 0, _, x, h => by cases h
  | k + 1, hk, x, h => by
    simp only [ds, List.mem_append, List.mem_singleton] at h
    rcases h with h | rfl
    · exact ds_lt l k (by omega) x h
    · exact dset_lt l k k (by omega)
/-- In the midst: those done, this one, the rest. -/
def mid (A : List Nat) (x n : Nat) : List Nat := A ++ x :: List.replicate n 0
theorem mid_set {A : List Nat} {x n k : Nat} (h : A.length = k) (y : Nat) : (mid A x n).set k y = mid A y n := by
  subst h
  simp [mid]
theorem mid_get {A : List Nat} {x n k : Nat} (h : A.length = k) (hk : k < (mid A x n).length) : (mid A x n)[k] = x := by
  subst h
  simp [mid]
theorem mid_old {A : List Nat} {x n i : Nat} (h : i < A.length) (hk : i < (mid A x n).length) : (mid A x n)[i] = A[i]! := by
  rw [getElem!_pos A i h]
  simp [mid, List.getElem_append_left h]
theorem mid_len {A : List Nat} {x n k : Nat} (h : A.length = k) : (mid A x n).length = k + 1 + n := by
  subst h
  simp [mid]; omega
theorem mid_next {A : List Nat} {x n : Nat} : mid A x (n + 1) = mid (A ++ [x]) 0 n := by simp [mid, List.replicate_succ]
theorem rep_sets : ∀ n, rep [AV.int .u64 0, .int .u64 0, .int .u64 0, .int .u64 0, .int .u64 0, .int .u64 0, .int .u64 0] n = sets (List.replicate n 0)
  | 0 => rfl
  | n + 1 => by
    rw [List.replicate_succ]
    show _ ++ rep _ n = setc 0 ++ _
    rw [rep_sets n]
    rfl
end Go.Proofs

namespace Go.Proofs
open Go Go.Eng
set_option maxRecDepth 100000
set_option maxHeartbeats 8000000
def H30 (D W : List Nat) : Heap := ⟨2, [(0, .cells (sets D)), (1, .cells (sets W))]⟩
abbrev slc (k n : Nat) : AV := .slice k 0 n (some n) 7
def st (A : List Nat) (n k : Nat) : List Nat := A ++ List.replicate (n - k) 0
theorem st_mid {A : List Nat} {n k : Nat} (h : k < n) : st A n k = mid A 0 (n - k - 1) := by
  have : n - k = (n - k - 1) + 1 := by omega
  simp only [st, mid]
  rw [this, List.replicate_succ]
  simp
theorem mid_st {A : List Nat} {x n k : Nat} (h : k < n) : mid A x (n - k - 1) = st (A ++ [x]) n (k + 1) := by
  simp only [st, mid, List.append_assoc, List.singleton_append]
  rfl
def L30 (l : List Ev) (cap : Option Nat) (m : Nat) (fr : Fr) (H : Heap) : Prop := ∃ k : Nat, k ≤ l.length ∧ m = l.length - k ∧ fr = [(0, .dslice (evs l) l.length cap), (2, slc 0 l.length), (3, slc 1 l.length), (13, I l.length), (14, I k)] ∧ H = H30 (st (ds l k) l.length k) (st (ws l k) l.length k)
def L30b (l : List Ev) (cap : Option Nat) (k : Nat) (m : Nat) (fr : Fr) (H : Heap) : Prop := ∃ i : Nat, i ≤ k ∧ m = k - i ∧ fr = [(0, .dslice (evs l) l.length cap), (2, slc 0 l.length), (3, slc 1 l.length), (4, I k), (13, I l.length), (14, I k), (17, I k), (18, I i)] ∧
  H = H30 (mid (ds l k) (dset l k i) (l.length - k - 1)) (mid (ws l k) (wset (ws l k) l k i) (l.length - k - 1))
theorem make_ok {n : Nat} (h : n ≤ 1000) : 0 ≤ (n : Int) ∧ ((56 : Nat) : Int) * (n : Int) ≤ 281474976710656 ∧ (n : Int) ≤ 9223372036854775807 := by omega
theorem c36m (A : List Nat) (x r k off i : Nat) (hA : A.length = k) (ho : off = k * 7) (hl : k + 1 + r ≤ 1000) (hS : x < 18446744073709551616) (hi : i < 64) : CallA Try.prog 36 [.ptr 0 off, I i] ⟨1, [(0, .cells (sets (mid A x r)))]⟩ fun v H' => v = .tuple [] ∧ H' = ⟨1, [(0, .cells (sets (mid A (x ||| 2 ^ i) r)))]⟩ := by
  have hk : k < (mid A x r).length := by rw [mid_len hA]; omega
  have h := c36o (mid A x r) k off i ho hk (by rw [mid_len hA]; omega) (by rw [mid_get hA hk]; exact hS) hi
  rw [mid_get hA hk, mid_set hA] at h
  exact h
theorem c32m (A : List Nat) (x r k off T : Nat) (hA : A.length = k) (ho : off = k * 7) (hS : x < 18446744073709551616) (hT : T < 18446744073709551616) : CallA Try.prog 32 [.ptr 0 off, .agg (setc T)] ⟨1, [(0, .cells (sets (mid A x r)))]⟩ fun v H' => v = .tuple [] ∧ H' = ⟨1, [(0, .cells (sets (mid A (x ||| T) r)))]⟩ := by
  have hk : k < (mid A x r).length := by rw [mid_len hA]; omega
  have h := c32o (mid A x r) k off T ho hk (by rw [mid_get hA hk]; exact hS) hT
  rw [mid_get hA hk, mid_set hA] at h
  exact h
theorem tk7m {A : List Nat} {x r i off : Nat} (h : i < A.length) (ho : off = i * 7) {K : List AV → Prop} (hk : K (setc A[i]!)) : takeK 7 ((sets (mid A x r)).drop off) K := by
  have hi : i < (mid A x r).length := by rw [mid_len rfl]; omega
  refine tk7 hi ho ?_
  rw [mid_old h hi]
  exact hk
theorem c30 (l : List Ev) (cap : Option Nat) (hl : l.length ≤ 60) (hok : ∀ i (h : i < l.length), l[i].ok) : CallA Try.prog 30 [.dslice (evs l) l.length cap] Heap.nil fun v H' => v = .tuple [slc 0 l.length, slc 1 l.length] ∧ H' = H30 (ds l l.length) (ws l l.length) := by
  have dS : ∀ l, dataB (.cells (sets l)) := fun l c hc => sets_noLoc l c hc
  refine callA_of ok30 (Nat.le_of_ble_eq_true rfl) ?_
  repeat' ((conv => whnf); first
      | refine Branch.ofT rfl ?_
      | refine Branch.ofF rfl ?_
      | refine Branch.dec (fun h => ?_) (fun h => ?_)
      | refine Branch.negdec (fun h => ?_) (fun h => ?_)
      | refine Branch.neg (fun h => ?_) (fun h => ?_)
      | refine Branch.mk (fun h => ?_) (fun h => ?_)
      | (refine Side.mk ?_ ?_; · first | omega | decide)
      | (refine SideD.mk ?_ ?_; · first | omega | decide)
      | refine ⟨_, Nat.lt_succ_self _, To.refl (.inl ⟨rfl, ?_⟩)⟩
      | refine Side.mk (make_ok (by omega)) ?_
      | (refine Side.mk ?_ ?_; · (simp; done))
      | fail
      )
  all_goals (conv => whnf)
  rw [show rep [AV.int .u64 0, .int .u64 0, .int .u64 0, .int .u64 0, .int .u64 0, .int .u64 0, .int .u64 0] (l.length : Int).toNat = sets (List.replicate l.length 0) from rep_sets _]
  refine ⟨L30 l cap, l.length, To.gc [(2, true), (5, true)] [0, 2, 3, 13, 14] rfl ⟨dS _, dS _, trivial⟩ ⟨0, by omega, by omega, rfl, rfl⟩, ?_⟩
  rintro m fr H ⟨k, hk, rfl, rfl, rfl⟩
  by_cases hkl : k < l.length
  · have hkt := evs_at k l hkl
    repeat' ((conv => whnf); first
        | refine Branch.ofT rfl ?_
        | refine Branch.ofF rfl ?_
        | refine Branch.ofT (decide_eq_true (by omega)) ?_
        | refine Branch.dec (fun h => ?_) (fun h => ?_)
        | refine Branch.negdec (fun h => ?_) (fun h => ?_)
        | refine Branch.neg (fun h => ?_) (fun h => ?_)
        | refine Branch.mk (fun h => ?_) (fun h => ?_)
        | (refine Side.mk ?_ ?_; · first | omega | decide)
        | (refine SideD.mk ?_ ?_; · first | omega | decide)
        | refine ⟨_, Nat.lt_succ_self _, To.refl (.inl ⟨rfl, ?_⟩)⟩
        | (refine Side.mk ?_ ?_; · (simp; done))
        | fail
        )
    all_goals (conv => whnf)
    refine ⟨L30b l cap k, k, To.gc [(0, true), (1, true)] [0, 2, 3, 4, 13, 14, 17, 18] rfl ⟨dS _, dS _, trivial⟩ ⟨0, by omega, by omega, rfl, by rw [st_mid hkl, st_mid hkl]; rfl⟩, ?_⟩
    rintro m fr H ⟨i, hi, rfl, rfl, rfl⟩
    by_cases hik : i < k
    · have hil : i < l.length := by omega
      have hit := evs_at i l hil
      have h11 := c11 l[i] l[k] (hok i hil) (hok k hkl)
      have gi : l[i]! = l[i] := getElem!_pos l i hil
      have gk : l[k]! = l[k] := getElem!_pos l k hkl
      repeat' ((conv => whnf); first
          | refine Branch.ofT rfl ?_
          | refine Branch.ofF rfl ?_
          | refine Branch.ofT (decide_eq_true (by omega)) ?_
          | refine Branch.dec (fun h => ?_) (fun h => ?_)
          | refine Branch.negdec (fun h => ?_) (fun h => ?_)
          | refine Branch.neg (fun h => ?_) (fun h => ?_)
          | refine Branch.mk (fun h => ?_) (fun h => ?_)
          | (refine Side.mk ?_ ?_; · first | omega | decide)
          | (refine SideD.mk ?_ ?_; · first | omega | decide)
          | refine ⟨_, Nat.lt_succ_self _, To.refl (.inl ⟨rfl, ?_⟩)⟩
          | refine tk3 hit ?_
          | refine tk3 hkt ?_
          | refine QCallA.of h11 rfl rfl ?_
          | (refine Side.mk ?_ ?_; · (simp; done))
          | fail
          )
      all_goals (conv => whnf)
      · have hx := dset_lt l k i (by omega)
        have hy := wset_lt (ws l k) (ws_lt l k (by omega)) l k i (by omega) (by rw [ws_len]; omega)
        have hy2 := or64 hy (pow64 (show i < 64 by omega))
        have hiw : i < (ws l k).length := by rw [ws_len]; omega
        have hT : (ws l k)[i]! < 18446744073709551616 := by rw [getElem!_pos _ i hiw]; exact ws_lt l k (by omega) _ (List.getElem_mem hiw)
        have ho : 0 + (k : Int).toNat * 7 = k * 7 := by omega
        have a1 := c36m (ds l k) (dset l k i) (l.length - k - 1) k _ i (ds_len l k) ho (by omega) hx (by omega)
        have a2 := c36m (ws l k) (wset (ws l k) l k i) (l.length - k - 1) k _ i (ws_len l k) ho (by omega) hy (by omega)
        have a3 := c32m (ws l k) (wset (ws l k) l k i ||| 2 ^ i) (l.length - k - 1) k _ (ws l k)[i]! (ws_len l k) ho hy2 hT
        repeat' ((conv => whnf); first
            | refine Branch.ofT rfl ?_
            | refine Branch.ofF rfl ?_
            | refine Branch.dec (fun h => ?_) (fun h => ?_)
            | refine Branch.negdec (fun h => ?_) (fun h => ?_)
            | refine Branch.neg (fun h => ?_) (fun h => ?_)
            | refine Branch.mk (fun h => ?_) (fun h => ?_)
            | (refine Side.mk ?_ ?_; · first | omega | decide)
            | (refine SideD.mk ?_ ?_; · first | omega | decide)
            | refine ⟨_, Nat.lt_succ_self _, To.refl (.inl ⟨rfl, ?_⟩)⟩
            | (refine CallA.lend [(0, true)] a1 rfl ⟨dS _, trivial⟩ rfl ?_; rintro c H' ⟨rfl, rfl⟩; refine ⟨⟨dS _, trivial⟩, ?_⟩)
            | (refine CallA.lend [(1, true)] a2 rfl ⟨dS _, trivial⟩ rfl ?_; rintro c H' ⟨rfl, rfl⟩; refine ⟨⟨dS _, trivial⟩, ?_⟩)
            | (refine CallA.lend [(1, true)] a3 rfl ⟨dS _, trivial⟩ rfl ?_; rintro c H' ⟨rfl, rfl⟩; refine ⟨⟨dS _, trivial⟩, ?_⟩)
            | refine tk7m hiw (by omega) ?_
            | (refine Side.mk ?_ ?_; · (simp; done))
            | fail
            )
        all_goals (conv => whnf)
        refine ⟨k - (i + 1), by omega, To.gc [(0, true), (1, true)] [0, 2, 3, 4, 13, 14, 17, 18] rfl ⟨dS _, dS _, trivial⟩ ⟨i + 1, by omega, rfl, rfl, ?_⟩⟩
        simp only [dset, wset, gi, gk, h, if_true]
        rfl
      · refine ⟨k - (i + 1), by omega, To.gc [(0, true), (1, true)] [0, 2, 3, 4, 13, 14, 17, 18] rfl ⟨dS _, dS _, trivial⟩ ⟨i + 1, by omega, rfl, rfl, ?_⟩⟩
        simp only [dset, wset, gi, gk, h, if_neg (show ¬ (false = true) by decide)]
        rfl
    · have : i = k := by omega
      subst this
      repeat' ((conv => whnf); first
          | refine Branch.ofT rfl ?_
          | refine Branch.ofF rfl ?_
          | refine Branch.ofF (decide_eq_false (by omega)) ?_
          | refine Branch.dec (fun h => ?_) (fun h => ?_)
          | refine Branch.negdec (fun h => ?_) (fun h => ?_)
          | refine Branch.neg (fun h => ?_) (fun h => ?_)
          | refine Branch.mk (fun h => ?_) (fun h => ?_)
          | (refine Side.mk ?_ ?_; · first | omega | decide)
          | (refine SideD.mk ?_ ?_; · first | omega | decide)
          | refine ⟨_, Nat.lt_succ_self _, To.refl (.inl ⟨rfl, ?_⟩)⟩
          | (refine Side.mk ?_ ?_; · (simp; done))
          | fail
          )
      all_goals (conv => whnf)
      refine ⟨l.length - (i + 1), by omega, To.gc [(0, true), (1, true)] [0, 2, 3, 13, 14] rfl ⟨dS _, dS _, trivial⟩ ⟨i + 1, by omega, rfl, rfl, ?_⟩⟩
      rw [mid_st hkl, mid_st hkl]
      rfl
  · have : k = l.length := by omega
    subst this
    repeat' ((conv => whnf); first
        | refine Branch.ofT rfl ?_
        | refine Branch.ofF rfl ?_
        | refine Branch.ofF (decide_eq_false (by omega)) ?_
        | refine Branch.dec (fun h => ?_) (fun h => ?_)
        | refine Branch.negdec (fun h => ?_) (fun h => ?_)
        | refine Branch.neg (fun h => ?_) (fun h => ?_)
        | refine Branch.mk (fun h => ?_) (fun h => ?_)
        | (refine Side.mk ?_ ?_; · first | omega | decide)
        | (refine SideD.mk ?_ ?_; · first | omega | decide)
        | refine ⟨_, Nat.lt_succ_self _, To.refl (.inl ⟨rfl, ?_⟩)⟩
        | (refine Side.mk ?_ ?_; · (simp; done))
        | fail
        )
    all_goals (conv => whnf)
    refine RetA.gc [(0, true), (1, true)] rfl ⟨dS _, dS _, trivial⟩ ⟨rfl, ?_⟩
    have e : ∀ A : List Nat, st A l.length l.length = A := fun A => by simp [st]
    rw [e, e]
    rfl
end Go.Proofs

namespace Go.Proofs
open Go Go.Eng
set_option maxRecDepth 100000
set_option maxHeartbeats 4000000
/-- Edges: from, to. -/
def ecs : List (Int × Int) → List AV
  | [] => []
  | x :: r => I x.1 :: I x.2 :: ecs r
theorem ecs_at : ∀ (i : Nat) (l : List (Int × Int)) (h : i < l.length), (ecs l).drop (i * 2) = I (l[i].1) :: I (l[i].2) :: ecs (l.drop (i + 1))
  | 0, x :: r, _ => rfl
  | i + 1, x :: r, h => by
    have e : (i + 1) * 2 = i * 2 + 2 := by omega
    rw [e]
    show (ecs r).drop (i * 2) = _
    rw [ecs_at i r (by simpa using h)]
    rfl
theorem ecs_noLoc : ∀ (l : List (Int × Int)), ∀ c ∈ ecs l, noLoc c = true
  | [], c, h => by cases h
  | x :: r, c, h => by
    simp only [ecs, List.mem_cons] at h
    rcases h with rfl | rfl | h
    · rfl
    · rfl
    · exact ecs_noLoc r c h
theorem ecs_len : ∀ (l : List (Int × Int)), (ecs l).length = l.length * 2
  | [] => rfl
  | x :: r => by simp only [ecs, List.length_cons, ecs_len r]; omega
theorem ecs_app : ∀ (a b : List (Int × Int)), ecs (a ++ b) = ecs a ++ ecs b
  | [], b => rfl
  | x :: a, b => by simp only [List.cons_append, ecs, ecs_app a b]
theorem tke {l : List (Int × Int)} {i off : Nat} (h : i < l.length) (ho : off = i * 2) {K : List AV → Prop} (hk : K [I l[i].1, I l[i].2]) : takeK 2 ((ecs l).drop off) K := by
  subst ho
  rw [ecs_at i l h, takeK_eq _ _ _ (by simp)]
  exact hk
def H13 (es : List (Int × Int)) : Heap := ⟨2, [(0, .cells (ecs es)), (1, .cells (ecs es))]⟩
def L13 (es : List (Int × Int)) (m : Nat) (fr : Fr) (H : Heap) : Prop := ∃ i : Nat, i ≤ es.length ∧ m = es.length - i ∧ fr = [(0, .slice 0 0 es.length none 2), (1, .slice 1 0 es.length none 2), (5, I i)] ∧ H = H13 es
theorem c13 (es : List (Int × Int)) (hl : es.length ≤ 10000) : CallA Try.prog 13 [.slice 0 0 es.length none 2, .slice 1 0 es.length none 2] (H13 es) fun v H' => v = .bool true ∧ H' = H13 es := by
  have dS : dataB (.cells (ecs es)) := fun c hc => ecs_noLoc es c hc
  refine callA_of ok13 (Nat.le_of_ble_eq_true rfl) ?_
  repeat' ((conv => whnf); first
      | refine Branch.ofT rfl ?_
      | refine Branch.ofF rfl ?_
      | refine Branch.ofF (by simp) ?_
      | refine Branch.dec (fun h => ?_) (fun h => ?_)
      | refine Branch.negdec (fun h => ?_) (fun h => ?_)
      | refine Branch.neg (fun h => ?_) (fun h => ?_)
      | refine Branch.mk (fun h => ?_) (fun h => ?_)
      | (refine Side.mk ?_ ?_; · first | omega | decide)
      | (refine SideD.mk ?_ ?_; · first | omega | decide)
      | refine ⟨_, Nat.lt_succ_self _, To.refl (.inl ⟨rfl, ?_⟩)⟩
      | (refine Side.mk ?_ ?_; · (simp; done))
      | fail
      )
  all_goals (conv => whnf)
  refine ⟨L13 es, es.length, To.gc [(0, true), (1, true)] [0, 1, 5] rfl ⟨dS, dS, trivial⟩ ⟨0, by omega, by omega, rfl, rfl⟩, ?_⟩
  rintro m fr H ⟨i, hi, rfl, rfl, rfl⟩
  by_cases hil : i < es.length
  · repeat' ((conv => whnf); first
        | refine Branch.ofT rfl ?_
        | refine Branch.ofF rfl ?_
        | refine Branch.ofT (decide_eq_true (by omega)) ?_
        | refine Branch.ofF (by simp) ?_
        | refine Branch.dec (fun h => ?_) (fun h => ?_)
        | refine Branch.negdec (fun h => ?_) (fun h => ?_)
        | refine Branch.neg (fun h => ?_) (fun h => ?_)
        | refine Branch.mk (fun h => ?_) (fun h => ?_)
        | (refine Side.mk ?_ ?_; · first | omega | decide)
        | (refine SideD.mk ?_ ?_; · first | omega | decide)
        | refine ⟨_, Nat.lt_succ_self _, To.refl (.inl ⟨rfl, ?_⟩)⟩
        | refine tke hil (by omega) ?_
        | (refine Side.mk ?_ ?_; · (simp; done))
        | fail
        )
    all_goals (conv => whnf)
    exact ⟨es.length - (i + 1), by omega, To.gc [(0, true), (1, true)] [0, 1, 5] rfl ⟨dS, dS, trivial⟩ ⟨i + 1, by omega, rfl, rfl, rfl⟩⟩
  · have : i = es.length := by omega
    subst this
    repeat' ((conv => whnf); first
        | refine Branch.ofT rfl ?_
        | refine Branch.ofF rfl ?_
        | refine Branch.ofF (decide_eq_false (by omega)) ?_
        | refine Branch.dec (fun h => ?_) (fun h => ?_)
        | refine Branch.negdec (fun h => ?_) (fun h => ?_)
        | refine Branch.neg (fun h => ?_) (fun h => ?_)
        | refine Branch.mk (fun h => ?_) (fun h => ?_)
        | (refine Side.mk ?_ ?_; · first | omega | decide)
        | (refine SideD.mk ?_ ?_; · first | omega | decide)
        | refine ⟨_, Nat.lt_succ_self _, To.refl (.inl ⟨rfl, ?_⟩)⟩
        | (refine Side.mk ?_ ?_; · (simp; done))
        | fail
        )
    all_goals (conv => whnf)
    exact RetA.gc [(0, true), (1, true)] rfl ⟨dS, dS, trivial⟩ ⟨rfl, rfl⟩
theorem c13n : CallA Try.prog 13 [.nils, .nils] Heap.nil fun v H' => v = .bool true ∧ H' = Heap.nil := by
  refine callA_of ok13 (Nat.le_of_ble_eq_true rfl) ?_
  repeat' ((conv => whnf); first
      | refine Branch.ofT rfl ?_
      | refine Branch.ofF rfl ?_
      | refine Branch.dec (fun h => ?_) (fun h => ?_)
      | refine Branch.negdec (fun h => ?_) (fun h => ?_)
      | refine Branch.neg (fun h => ?_) (fun h => ?_)
      | refine Branch.mk (fun h => ?_) (fun h => ?_)
      | (refine Side.mk ?_ ?_; · first | omega | decide)
      | (refine SideD.mk ?_ ?_; · first | omega | decide)
      | refine ⟨_, Nat.lt_succ_self _, To.refl (.inl ⟨rfl, ?_⟩)⟩
      | refine LoopA.unroll _ _ _ 1 ?_
      | (refine Side.mk ?_ ?_; · (simp; done))
      | fail
      )
  all_goals (conv => whnf)
  exact RetA.data rfl ⟨rfl, rfl⟩
end Go.Proofs

namespace Go.Proofs
open Go Go.Eng
set_option maxRecDepth 100000
set_option maxHeartbeats 4000000
theorem _root_.Go.Eng.frz1 {η : Nat → AB} {k : Nat} {ds vs us : List AV} {K : List AV → Prop} (h : η k = .cells ds) (hd : ds.all noLoc = true) (he : pubL k ds vs = us) (hk : fvs us K) : fvs (frz η [k] vs) K := by
  have : frz η [k] vs = us := by
    simp only [frz, h, hd, cond_true]; exact he
  rw [this]; exact hk
theorem c31o (l : List Nat) (k off i : Nat) (hk : k < l.length) (ho : off = k * 7) (hS : l[k] < 18446744073709551616) (hi : i < 64) : CallA Try.prog 31 [.ptr 0 off, I i] ⟨1, [(0, .cells (sets l))]⟩ fun v H' => v = .bool (l[k].testBit i) ∧ H' = ⟨1, [(0, .cells (sets l))]⟩ := by
  refine callA_of ok31 (Nat.le_of_ble_eq_true rfl) ?_
  have ho2 : off + ((i : Int) / 64).toNat * 1 = k * 7 := by omega
  repeat' ((conv => whnf); first
      | refine Branch.ofT rfl ?_
      | refine Branch.ofF rfl ?_
      | refine Branch.dec (fun h => ?_) (fun h => ?_)
      | refine Branch.negdec (fun h => ?_) (fun h => ?_)
      | refine Branch.neg (fun h => ?_) (fun h => ?_)
      | refine Branch.mk (fun h => ?_) (fun h => ?_)
      | (refine Side.mk ?_ ?_; · first | omega | decide)
      | (refine SideD.mk ?_ ?_; · first | omega | decide)
      | refine ⟨_, Nat.lt_succ_self _, To.refl (.inl ⟨rfl, ?_⟩)⟩
      | refine nth_set hk ho2 ?_
      | (refine Side.mk ?_ ?_; · (simp; done))
      | fail
      )
  all_goals (conv => whnf)
  refine RetA.gc [(0, true)] rfl ⟨fun c hc => sets_noLoc l c hc, trivial⟩ ⟨?_, rfl⟩
  rw [← has_eq l[k] i hS hi]
  rfl
/-- The same, of data. -/
theorem c31d (l : List Nat) (k off i : Nat) (hk : k < l.length) (ho : off = k * 7) (hS : l[k] < 18446744073709551616) (hi : i < 64) : CallA Try.prog 31 [.dptr ((sets l).drop off), I i] Heap.nil fun v H' => v = .bool (l[k].testBit i) ∧ H' = Heap.nil := by
  subst ho
  rw [sets_at k l hk]
  exact c31 l[k] i _ hS hi
/-- The places from which a longer way leads. -/
def lngr (D : Nat) (W : List Nat) : Nat → Nat
  | 0 => 0
  | i + 1 => if D.testBit i = true then lngr D W i ||| W[i]! else lngr D W i
def ek (l : List Ev) (k D L : Nat) : Nat → List (Int × Int)
  | 0 => []
  | i + 1 => if (decide (l[i]!.cpu = l[k]!.cpu) = false ∧ D.testBit i = true) ∧ L.testBit i = false then ek l k D L i ++ [((i : Int), (k : Int))] else ek l k D L i
/-- The edges to the first k events. -/
def es (l : List Ev) (D W : List Nat) : Nat → List (Int × Int)
  | 0 => []
  | k + 1 => es l D W k ++ ek l k D[k]! (lngr D[k]! W k) k
theorem lngr_lt {D : Nat} {W : List Nat} (hW : ∀ x ∈ W, x < 18446744073709551616) : ∀ i, i ≤ W.length → lngr D W i < 18446744073709551616
  | 0, _ => show 0 < 18446744073709551616 by decide
  | i + 1, h => by
    have ih := lngr_lt hW i (by omega) (D := D)
    simp only [lngr]
    split
    · refine or64 ih ?_
      have : i < W.length := by omega
      rw [getElem!_pos W i this]
      exact hW _ (List.getElem_mem this)
    · exact ih
end Go.Proofs

namespace Go.Proofs
open Go Go.Eng
set_option maxRecDepth 100000
set_option maxHeartbeats 8000000
def oV (p : Nat) : List (Int × Int) → AV
  | [] => .nils
  | _ :: r => .slice p 0 (r.length + 1) none 2
def HO (D W : List Nat) : List (Int × Int) → Heap
  | [] => ⟨2, [(0, .cells (sets D)), (1, .cells (sets W))]⟩
  | e :: r => ⟨3, [(0, .cells (sets D)), (1, .cells (sets W)), (2, .cells (ecs (e :: r)))]⟩
def HI (D W : List Nat) (x : Nat) : List (Int × Int) → Heap
  | [] => ⟨3, [(0, .cells (sets D)), (1, .cells (sets W)), (2, .cells (sets [x]))]⟩
  | e :: r => ⟨4, [(0, .cells (sets D)), (1, .cells (sets W)), (2, .cells (sets [x])), (3, .cells (ecs (e :: r)))]⟩
def L14 (l : List Ev) (cap : Option Nat) (D W : List Nat) (m : Nat) (fr : Fr) (H : Heap) : Prop := ∃ k : Nat, k ≤ l.length ∧ m = l.length - k ∧ fr = [(0, .dslice (evs l) l.length cap), (3, slc 0 l.length), (4, slc 1 l.length), (5, oV 2 (es l D W k)), (16, I l.length), (17, I k)] ∧ H = HO D W (es l D W k)
def L14a (l : List Ev) (cap : Option Nat) (D W : List Nat) (k : Nat) (E : List (Int × Int)) (m : Nat) (fr : Fr) (H : Heap) : Prop := ∃ i : Nat, i ≤ k ∧ m = k - i ∧ fr = [(0, .dslice (evs l) l.length cap), (3, slc 0 l.length), (4, slc 1 l.length), (5, oV 3 E), (6, I k), (7, .ptr 2 0), (16, I l.length), (17, I k), (20, I k), (21, I i)] ∧ H = HI D W (lngr D[k]! W i) E
def L14b (l : List Ev) (cap : Option Nat) (D W : List Nat) (k x : Nat) (E : List (Int × Int)) (m : Nat) (fr : Fr) (H : Heap) : Prop := ∃ i : Nat, i ≤ k ∧ m = k - i ∧ fr = [(0, .dslice (evs l) l.length cap), (3, slc 0 l.length), (4, slc 1 l.length), (5, oV 3 (E ++ ek l k D[k]! x i)), (6, I k), (7, .ptr 2 0), (16, I l.length), (17, I k), (35, I k), (36, I i)] ∧ H = HI D W x (E ++ ek l k D[k]! x i)
theorem app1 (a b : Int) : fits 1 16 ∧ ∀ (c : AV), c ∈ List.take (1 * 2) (I a :: I b :: ([] : List AV).append (rep [I 0, I 0] 0)) → scal c = true := by
  refine ⟨by unfold fits; omega, fun c hc => ?_⟩
  have : c = I a ∨ c = I b := by simpa [rep] using hc
  rcases this with rfl | rfl <;> rfl
theorem app2 (F : List (Int × Int)) (a b : Int) (hF : F.length ≤ 5000) : 2 = 2 ∧ 0 = 0 ∧ (ecs F).length = F.length * 2 ∧ fits (F.length + 1) 16 ∧ ∀ (c : AV), c ∈ List.take (1 * 2) (I a :: I b :: ([] : List AV).append (rep [I 0, I 0] 0)) → scal c = true := by
  refine ⟨rfl, rfl, ecs_len F, by unfold fits; omega, fun c hc => ?_⟩
  have : c = I a ∨ c = I b := by simpa [rep] using hc
  rcases this with rfl | rfl <;> rfl
theorem ek_len (l : List Ev) (k D L : Nat) : ∀ i, (ek l k D L i).length ≤ i
  | 0 => Nat.le_refl _
  | i + 1 => by
    have := ek_len l k D L i
    simp only [ek]
    split
    · simp; omega
    · omega
theorem es_len (l : List Ev) (D W : List Nat) : ∀ k, k ≤ 60 → (es l D W k).length ≤ k * 60
  | 0, _ => Nat.le_refl _
  | k + 1, h => by
    have h1 := es_len l D W k (by omega)
    have h2 := ek_len l k D[k]! (lngr D[k]! W k) k
    simp only [es, List.length_append]
    omega
theorem oV_app (f z : Int × Int) (q : List (Int × Int)) : AV.slice 3 0 (q.length + 1 + 1) none 2 = oV 3 (f :: (q ++ [z])) := by simp [oV]
theorem HI_app (D W : List Nat) (x : Nat) (f z : Int × Int) (q : List (Int × Int)) : (⟨4, [(0, .cells (sets D)), (1, .cells (sets W)), (2, .cells (sets [x])), (3, .cells (ecs (f :: q) ++ [I z.1, I z.2]))]⟩ : Heap) = HI D W x (f :: (q ++ [z])) := by
  have : ecs (f :: q) ++ [I z.1, I z.2] = ecs (f :: (q ++ [z])) := by
    rw [show f :: (q ++ [z]) = (f :: q) ++ [z] from rfl, ecs_app]; rfl
  rw [this]; rfl
theorem datA (F : List (Int × Int)) (a b : Int) : dataB (.cells (ecs F ++ List.take (1 * 2) (I a :: I b :: ([] : List AV).append (rep [I 0, I 0] 0)))) := by
  intro c hc
  rcases List.mem_append.1 hc with h | h
  · exact ecs_noLoc F c h
  · have : c = I a ∨ c = I b := by simpa [rep] using h
    rcases this with rfl | rfl <;> rfl
theorem c14 (l : List Ev) (cap : Option Nat) (hl : l.length ≤ 60) (hok : ∀ i (h : i < l.length), l[i].ok) :
    CallA Try.prog 14 [.dslice (evs l) l.length cap] Heap.nil fun v H' => v = oV 2 (es l (ds l l.length) (ws l l.length) l.length) ∧ H' = HO (ds l l.length) (ws l l.length) (es l (ds l l.length) (ws l l.length) l.length) := by
  have h30 := c30 l cap hl hok
  have hD := ds_lt l l.length (by omega)
  have hW := ws_lt l l.length (by omega)
  have lD := ds_len l l.length
  have lW := ws_len l l.length
  generalize ds l l.length = D at *
  generalize ws l l.length = W at *
  have dS : ∀ l, dataB (.cells (sets l)) := fun l c hc => sets_noLoc l c hc
  have dE : ∀ l, dataB (.cells (ecs l)) := fun l c hc => ecs_noLoc l c hc
  refine callA_of ok14 (Nat.le_of_ble_eq_true rfl) ?_
  repeat' ((conv => whnf); first
      | refine Branch.ofT rfl ?_
      | refine Branch.ofF rfl ?_
      | refine Branch.dec (fun h => ?_) (fun h => ?_)
      | refine Branch.negdec (fun h => ?_) (fun h => ?_)
      | refine Branch.neg (fun h => ?_) (fun h => ?_)
      | refine Branch.mk (fun h => ?_) (fun h => ?_)
      | (refine Side.mk ?_ ?_; · first | omega | decide)
      | (refine SideD.mk ?_ ?_; · first | omega | decide)
      | refine ⟨_, Nat.lt_succ_self _, To.refl (.inl ⟨rfl, ?_⟩)⟩
      | (refine CallA.mono h30 ?_; rintro _ _ ⟨rfl, rfl⟩)
      | (refine Side.mk ?_ ?_; · (simp; done))
      | fail
      )
  all_goals (conv => whnf)
  refine ⟨L14 l cap D W, l.length, To.gc [(0, true), (1, true)] [0, 3, 4, 5, 16, 17] rfl ⟨dS _, dS _, trivial⟩ ⟨0, by omega, by omega, rfl, rfl⟩, ?_⟩
  rintro m fr H ⟨k, hk, rfl, rfl, rfl⟩
  by_cases hkl : k < l.length
  · have hkt := evs_at k l hkl
    have hkD : k < D.length := by omega
    have gD : D[k]! = D[k] := getElem!_pos D k hkD
    have bD := hD _ (List.getElem_mem hkD)
    have a31 := fun i (hi : i < 64) => c31o D k (0 + (k : Int).toNat * 7) i hkD (by omega) bD hi
    have hes : es l D W (k + 1) = es l D W k ++ ek l k D[k]! (lngr D[k]! W k) k := rfl
    have hEl := es_len l D W k (by omega)
    have hEl : (es l D W k).length ≤ 3600 := by omega
    generalize es l D W k = E at *
    have ex : lngr D[k]! W 0 = 0 := rfl
    cases E with
    | nil =>
      repeat' ((conv => whnf); first
          | refine Branch.ofT rfl ?_
          | refine Branch.ofF rfl ?_
          | refine Branch.ofT (decide_eq_true (by omega)) ?_
          | refine Branch.dec (fun h => ?_) (fun h => ?_)
          | refine Branch.negdec (fun h => ?_) (fun h => ?_)
          | refine Branch.neg (fun h => ?_) (fun h => ?_)
          | refine Branch.mk (fun h => ?_) (fun h => ?_)
          | (refine Side.mk ?_ ?_; · first | omega | decide)
          | (refine SideD.mk ?_ ?_; · first | omega | decide)
          | refine ⟨_, Nat.lt_succ_self _, To.refl (.inl ⟨rfl, ?_⟩)⟩
          | (refine Side.mk ?_ ?_; · (simp; done))
          | fail
          )
      all_goals (conv => whnf)
      refine ⟨L14a l cap D W k [], k, To.gc [(0, true), (1, true), (2, true)] [0, 3, 4, 5, 6, 7, 16, 17, 20, 21] rfl ⟨dS _, dS _, dS [0], trivial⟩ ⟨0, by omega, by omega, rfl, rfl⟩, ?_⟩
      rintro m fr H ⟨i, hi, rfl, rfl, rfl⟩
      by_cases hik : i < k
      · have hiW : i < W.length := by omega
        have gW : W[i]! = W[i] := getElem!_pos W i hiW
        have bx := lngr_lt hW i (by omega) (D := D[k]!)
        obtain ⟨b, hb⟩ : ∃ b, D[k].testBit i = b := ⟨_, rfl⟩
        have a31 := a31 i (by omega)
        rw [hb] at a31
        have a32 := c32o [lngr D[k]! W i] 0 0 W[i] rfl (by simp) bx (hW _ (List.getElem_mem hiW))
        repeat' ((conv => whnf); first
            | refine Branch.ofT rfl ?_
            | refine Branch.ofF rfl ?_
            | refine Branch.ofT (decide_eq_true (by omega)) ?_
            | refine Branch.dec (fun h => ?_) (fun h => ?_)
            | refine Branch.negdec (fun h => ?_) (fun h => ?_)
            | refine Branch.neg (fun h => ?_) (fun h => ?_)
            | refine Branch.mk (fun h => ?_) (fun h => ?_)
            | (refine Side.mk ?_ ?_; · first | omega | decide)
            | (refine SideD.mk ?_ ?_; · first | omega | decide)
            | refine ⟨_, Nat.lt_succ_self _, To.refl (.inl ⟨rfl, ?_⟩)⟩
            | refine CallA.lent [(0, true)] (Q := fun v => v = .bool b) a31 rfl rfl ⟨dS _, trivial⟩ rfl ⟨dS _, trivial⟩ (fun v hv => by subst hv; rfl) (fun v hv => ?_)
            | (subst hv)
            | refine tk7 hiW (by omega) ?_
            | (refine CallA.lend [(2, true)] a32 rfl ⟨dS [_], trivial⟩ rfl ?_; rintro c H' ⟨rfl, rfl⟩; refine ⟨⟨dS _, trivial⟩, ?_⟩)
            | (refine Side.mk ?_ ?_; · (simp; done))
            | fail
            )
        all_goals (conv => whnf)
        · have hs : lngr D[k]! W (i + 1) = lngr D[k]! W i ||| W[i] := by rw [lngr, gD, hb, if_pos h, gW]
          exact ⟨k - (i + 1), by omega, To.gc [(0, true), (1, true), (2, true)] [0, 3, 4, 5, 6, 7, 16, 17, 20, 21] rfl ⟨dS _, dS _, dS [_], trivial⟩ ⟨i + 1, by omega, rfl, rfl, by rw [hs]; rfl⟩⟩
        · have hs : lngr D[k]! W (i + 1) = lngr D[k]! W i := by rw [lngr, gD, hb, if_neg (by rw [h]; simp)]
          exact ⟨k - (i + 1), by omega, To.gc [(0, true), (1, true), (2, true)] [0, 3, 4, 5, 6, 7, 16, 17, 20, 21] rfl ⟨dS _, dS _, dS [_], trivial⟩ ⟨i + 1, by omega, rfl, rfl, by rw [hs]; rfl⟩⟩
      · have : i = k := by omega
        subst this
        have bx := lngr_lt hW i (by omega) (D := D[i]!)
        generalize lngr D[i]! W i = x at *
        repeat' ((conv => whnf); first
            | refine Branch.ofT rfl ?_
            | refine Branch.ofF rfl ?_
            | refine Branch.ofF (decide_eq_false (by omega)) ?_
            | refine Branch.dec (fun h => ?_) (fun h => ?_)
            | refine Branch.negdec (fun h => ?_) (fun h => ?_)
            | refine Branch.neg (fun h => ?_) (fun h => ?_)
            | refine Branch.mk (fun h => ?_) (fun h => ?_)
            | (refine Side.mk ?_ ?_; · first | omega | decide)
            | (refine SideD.mk ?_ ?_; · first | omega | decide)
            | refine ⟨_, Nat.lt_succ_self _, To.refl (.inl ⟨rfl, ?_⟩)⟩
            | (refine Side.mk ?_ ?_; · (simp; done))
            | fail
            )
        all_goals (conv => whnf)
        refine ⟨L14b l cap D W i x [], i, To.gc [(0, true), (1, true), (2, true)] [0, 3, 4, 5, 6, 7, 16, 17, 35, 36] rfl ⟨dS _, dS _, dS [_], trivial⟩ ⟨0, by omega, by omega, rfl, rfl⟩, ?_⟩
        rintro m fr H ⟨j, hj, rfl, rfl, rfl⟩
        rw [List.nil_append]
        by_cases hji : j < i
        · have hjt := evs_at j l (by omega)
          have gj : l[j]! = l[j] := getElem!_pos l j (by omega)
          have gk : l[i]! = l[i] := getElem!_pos l i hkl
          have dA : ∀ l, (sets l).all noLoc = true := fun l => List.all_eq_true.2 (sets_noLoc l)
          have b31 := c31d D i (0 + (i : Int).toNat * 7) j hkD (by omega) bD (by omega)
          have x31 := c31d [x] 0 0 j (by simp) rfl bx (by omega)
          have hn : ek l i D[i]! x (j + 1) = if (decide (l[j].cpu = l[i].cpu) = false ∧ D[i].testBit j = true) ∧ x.testBit j = false then ek l i D[i]! x j ++ [((j : Int), (i : Int))] else ek l i D[i]! x j := by rw [ek, gj, gk, gD]
          obtain ⟨b1, hb1⟩ : ∃ b, D[i].testBit j = b := ⟨_, rfl⟩
          obtain ⟨b2, hb2⟩ : ∃ b, x.testBit j = b := ⟨_, rfl⟩
          rw [hb1] at b31
          rw [show [x][0].testBit j = b2 from hb2] at x31
          rw [hb1, hb2] at hn
          have hF := ek_len l i D[i]! x j
          generalize ek l i D[i]! x j = F at *
          cases F with
          | nil =>
            repeat' ((conv => whnf); first
                | refine Branch.ofT rfl ?_
                | refine Branch.ofF rfl ?_
                | refine Branch.ofT (decide_eq_true (by omega)) ?_
                | refine Branch.dec (fun h => ?_) (fun h => ?_)
                | refine Branch.negdec (fun h => ?_) (fun h => ?_)
                | refine Branch.neg (fun h => ?_) (fun h => ?_)
                | refine Branch.mk (fun h => ?_) (fun h => ?_)
                | (refine Side.mk ?_ ?_; · first | omega | decide)
                | (refine SideD.mk ?_ ?_; · first | omega | decide)
                | refine ⟨_, Nat.lt_succ_self _, To.refl (.inl ⟨rfl, ?_⟩)⟩
                | refine nt0 hjt ?_
                | refine nt0 hkt ?_
                | (refine frz1 rfl (dA _) rfl ?_)
                | refine QCallA.of b31 rfl rfl ?_
                | refine QCallA.of x31 rfl rfl ?_
                | refine Side.mk (app1 _ _) ?_
                | (refine Side.mk ?_ ?_; · (simp; done))
                | fail
                )
            all_goals (conv => whnf)
            all_goals first
              | (have hn' : ek l i D[i]! x (j + 1) = [((j : Int), (i : Int))] := by
                  rw [hn, if_pos ⟨⟨decide_eq_false ‹¬ l[j].cpu = l[i].cpu›, ‹b1 = true›⟩, ‹b2 = false›⟩]; rfl
                 exact ⟨i - (j + 1), by omega, To.gc [(0, true), (1, true), (2, true), (26, true)] [0, 3, 4, 5, 6, 7, 16, 17, 35, 36] rfl ⟨dS _, dS _, dS [_], datE rfl, trivial⟩ ⟨j + 1, by omega, rfl, by rw [List.nil_append, hn']; rfl, by rw [List.nil_append, hn']; rfl⟩⟩)
              | (have hn' : ek l i D[i]! x (j + 1) = [] := by
                  rw [hn, if_neg (fun q => by obtain ⟨⟨q1, q2⟩, q3⟩ := q; simp_all)]
                 exact ⟨i - (j + 1), by omega, To.gc [(0, true), (1, true), (2, true)] [0, 3, 4, 5, 6, 7, 16, 17, 35, 36] rfl ⟨dS _, dS _, dS [_], trivial⟩ ⟨j + 1, by omega, rfl, by rw [List.nil_append, hn']; rfl, by rw [List.nil_append, hn']; rfl⟩⟩)
          | cons f q =>
            have hq : (f :: q).length ≤ 5000 := by omega
            repeat' ((conv => whnf); first
                | refine Branch.ofT rfl ?_
                | refine Branch.ofF rfl ?_
                | refine Branch.ofT (decide_eq_true (by omega)) ?_
                | refine Branch.dec (fun h => ?_) (fun h => ?_)
                | refine Branch.negdec (fun h => ?_) (fun h => ?_)
                | refine Branch.neg (fun h => ?_) (fun h => ?_)
                | refine Branch.mk (fun h => ?_) (fun h => ?_)
                | (refine Side.mk ?_ ?_; · first | omega | decide)
                | (refine SideD.mk ?_ ?_; · first | omega | decide)
                | refine ⟨_, Nat.lt_succ_self _, To.refl (.inl ⟨rfl, ?_⟩)⟩
                | refine nt0 hjt ?_
                | refine nt0 hkt ?_
                | (refine frz1 rfl (dA _) rfl ?_)
                | refine QCallA.of b31 rfl rfl ?_
                | refine QCallA.of x31 rfl rfl ?_
                | refine Side.mk (app2 (f :: q) _ _ hq) ?_
                | (refine Side.mk ?_ ?_; · (simp; done))
                | fail
                )
            all_goals (conv => whnf)
            all_goals first
              | (have hn' : ek l i D[i]! x (j + 1) = f :: (q ++ [((j : Int), (i : Int))]) := by
                  rw [hn, if_pos ⟨⟨decide_eq_false ‹¬ l[j].cpu = l[i].cpu›, ‹b1 = true›⟩, ‹b2 = false›⟩]; rfl
                 exact ⟨i - (j + 1), by omega, To.gc [(0, true), (1, true), (2, true), (27, true)] [0, 3, 4, 5, 6, 7, 16, 17, 35, 36] rfl ⟨dS _, dS _, dS [_], datA (f :: q) _ _, trivial⟩ ⟨j + 1, by omega, rfl, by rw [List.nil_append, hn', ← oV_app]; rfl, by rw [List.nil_append, hn', ← HI_app]; rfl⟩⟩)
              | (have hn' : ek l i D[i]! x (j + 1) = f :: q := by
                  rw [hn, if_neg (fun q => by obtain ⟨⟨q1, q2⟩, q3⟩ := q; simp_all)]
                 exact ⟨i - (j + 1), by omega, To.gc [(0, true), (1, true), (2, true), (3, true)] [0, 3, 4, 5, 6, 7, 16, 17, 35, 36] rfl ⟨dS _, dS _, dS [_], dE (f :: q), trivial⟩ ⟨j + 1, by omega, rfl, by rw [List.nil_append, hn']; rfl, by rw [List.nil_append, hn']; rfl⟩⟩)
        · have : j = i := by omega
          subst this
          generalize ek l j D[j]! x j = F at *
          cases F with
          | nil =>
            repeat' ((conv => whnf); first
                | refine Branch.ofT rfl ?_
                | refine Branch.ofF rfl ?_
                | refine Branch.ofF (decide_eq_false (by omega)) ?_
                | refine Branch.dec (fun h => ?_) (fun h => ?_)
                | refine Branch.negdec (fun h => ?_) (fun h => ?_)
                | refine Branch.neg (fun h => ?_) (fun h => ?_)
                | refine Branch.mk (fun h => ?_) (fun h => ?_)
                | (refine Side.mk ?_ ?_; · first | omega | decide)
                | (refine SideD.mk ?_ ?_; · first | omega | decide)
                | refine ⟨_, Nat.lt_succ_self _, To.refl (.inl ⟨rfl, ?_⟩)⟩
                | (refine Side.mk ?_ ?_; · (simp; done))
                | fail
                )
            all_goals (conv => whnf)
            exact ⟨l.length - (j + 1), by omega, To.gc [(0, true), (1, true)] [0, 3, 4, 5, 16, 17] rfl ⟨dS _, dS _, trivial⟩ ⟨j + 1, by omega, rfl, by rw [hes]; rfl, by rw [hes]; rfl⟩⟩
          | cons f q =>
            repeat' ((conv => whnf); first
                | refine Branch.ofT rfl ?_
                | refine Branch.ofF rfl ?_
                | refine Branch.ofF (decide_eq_false (by omega)) ?_
                | refine Branch.dec (fun h => ?_) (fun h => ?_)
                | refine Branch.negdec (fun h => ?_) (fun h => ?_)
                | refine Branch.neg (fun h => ?_) (fun h => ?_)
                | refine Branch.mk (fun h => ?_) (fun h => ?_)
                | (refine Side.mk ?_ ?_; · first | omega | decide)
                | (refine SideD.mk ?_ ?_; · first | omega | decide)
                | refine ⟨_, Nat.lt_succ_self _, To.refl (.inl ⟨rfl, ?_⟩)⟩
                | (refine Side.mk ?_ ?_; · (simp; done))
                | fail
                )
            all_goals (conv => whnf)
            exact ⟨l.length - (j + 1), by omega, To.gc [(0, true), (1, true), (3, true)] [0, 3, 4, 5, 16, 17] rfl ⟨dS _, dS _, dE (f :: q), trivial⟩ ⟨j + 1, by omega, rfl, by rw [hes]; rfl, by rw [hes]; rfl⟩⟩
    | cons e r =>
      repeat' ((conv => whnf); first
          | refine Branch.ofT rfl ?_
          | refine Branch.ofF rfl ?_
          | refine Branch.ofT (decide_eq_true (by omega)) ?_
          | refine Branch.dec (fun h => ?_) (fun h => ?_)
          | refine Branch.negdec (fun h => ?_) (fun h => ?_)
          | refine Branch.neg (fun h => ?_) (fun h => ?_)
          | refine Branch.mk (fun h => ?_) (fun h => ?_)
          | (refine Side.mk ?_ ?_; · first | omega | decide)
          | (refine SideD.mk ?_ ?_; · first | omega | decide)
          | refine ⟨_, Nat.lt_succ_self _, To.refl (.inl ⟨rfl, ?_⟩)⟩
          | (refine Side.mk ?_ ?_; · (simp; done))
          | fail
          )
      all_goals (conv => whnf)
      refine ⟨L14a l cap D W k (e :: r), k, To.gc [(0, true), (1, true), (3, true), (2, true)] [0, 3, 4, 5, 6, 7, 16, 17, 20, 21] rfl ⟨dS _, dS _, dS [0], dE (e :: r), trivial⟩ ⟨0, by omega, by omega, rfl, rfl⟩, ?_⟩
      rintro m fr H ⟨i, hi, rfl, rfl, rfl⟩
      by_cases hik : i < k
      · have hiW : i < W.length := by omega
        have gW : W[i]! = W[i] := getElem!_pos W i hiW
        have bx := lngr_lt hW i (by omega) (D := D[k]!)
        obtain ⟨b, hb⟩ : ∃ b, D[k].testBit i = b := ⟨_, rfl⟩
        have a31 := a31 i (by omega)
        rw [hb] at a31
        have a32 := c32o [lngr D[k]! W i] 0 0 W[i] rfl (by simp) bx (hW _ (List.getElem_mem hiW))
        repeat' ((conv => whnf); first
            | refine Branch.ofT rfl ?_
            | refine Branch.ofF rfl ?_
            | refine Branch.ofT (decide_eq_true (by omega)) ?_
            | refine Branch.dec (fun h => ?_) (fun h => ?_)
            | refine Branch.negdec (fun h => ?_) (fun h => ?_)
            | refine Branch.neg (fun h => ?_) (fun h => ?_)
            | refine Branch.mk (fun h => ?_) (fun h => ?_)
            | (refine Side.mk ?_ ?_; · first | omega | decide)
            | (refine SideD.mk ?_ ?_; · first | omega | decide)
            | refine ⟨_, Nat.lt_succ_self _, To.refl (.inl ⟨rfl, ?_⟩)⟩
            | refine CallA.lent [(0, true)] (Q := fun v => v = .bool b) a31 rfl rfl ⟨dS _, trivial⟩ rfl ⟨dS _, trivial⟩ (fun v hv => by subst hv; rfl) (fun v hv => ?_)
            | (subst hv)
            | refine tk7 hiW (by omega) ?_
            | (refine CallA.lend [(2, true)] a32 rfl ⟨dS [_], trivial⟩ rfl ?_; rintro c H' ⟨rfl, rfl⟩; refine ⟨⟨dS _, trivial⟩, ?_⟩)
            | (refine Side.mk ?_ ?_; · (simp; done))
            | fail
            )
        all_goals (conv => whnf)
        · have hs : lngr D[k]! W (i + 1) = lngr D[k]! W i ||| W[i] := by rw [lngr, gD, hb, if_pos h, gW]
          exact ⟨k - (i + 1), by omega, To.gc [(0, true), (1, true), (2, true), (3, true)] [0, 3, 4, 5, 6, 7, 16, 17, 20, 21] rfl ⟨dS _, dS _, dS [_], dE (e :: r), trivial⟩ ⟨i + 1, by omega, rfl, rfl, by rw [hs]; rfl⟩⟩
        · have hs : lngr D[k]! W (i + 1) = lngr D[k]! W i := by rw [lngr, gD, hb, if_neg (by rw [h]; simp)]
          exact ⟨k - (i + 1), by omega, To.gc [(0, true), (1, true), (2, true), (3, true)] [0, 3, 4, 5, 6, 7, 16, 17, 20, 21] rfl ⟨dS _, dS _, dS [_], dE (e :: r), trivial⟩ ⟨i + 1, by omega, rfl, rfl, by rw [hs]; rfl⟩⟩
      · have : i = k := by omega
        subst this
        have bx := lngr_lt hW i (by omega) (D := D[i]!)
        generalize lngr D[i]! W i = x at *
        repeat' ((conv => whnf); first
            | refine Branch.ofT rfl ?_
            | refine Branch.ofF rfl ?_
            | refine Branch.ofF (decide_eq_false (by omega)) ?_
            | refine Branch.dec (fun h => ?_) (fun h => ?_)
            | refine Branch.negdec (fun h => ?_) (fun h => ?_)
            | refine Branch.neg (fun h => ?_) (fun h => ?_)
            | refine Branch.mk (fun h => ?_) (fun h => ?_)
            | (refine Side.mk ?_ ?_; · first | omega | decide)
            | (refine SideD.mk ?_ ?_; · first | omega | decide)
            | refine ⟨_, Nat.lt_succ_self _, To.refl (.inl ⟨rfl, ?_⟩)⟩
            | (refine Side.mk ?_ ?_; · (simp; done))
            | fail
            )
        all_goals (conv => whnf)
        refine ⟨L14b l cap D W i x (e :: r), i, To.gc [(0, true), (1, true), (2, true), (3, true)] [0, 3, 4, 5, 6, 7, 16, 17, 35, 36] rfl ⟨dS _, dS _, dS [_], dE (e :: r), trivial⟩ ⟨0, by omega, by omega, by rw [ek, List.append_nil]; rfl, by rw [ek, List.append_nil]; rfl⟩, ?_⟩
        rintro m fr H ⟨j, hj, rfl, rfl, rfl⟩
        by_cases hji : j < i
        · have hjt := evs_at j l (by omega)
          have gj : l[j]! = l[j] := getElem!_pos l j (by omega)
          have gk : l[i]! = l[i] := getElem!_pos l i hkl
          have dA : ∀ l, (sets l).all noLoc = true := fun l => List.all_eq_true.2 (sets_noLoc l)
          have b31 := c31d D i (0 + (i : Int).toNat * 7) j hkD (by omega) bD (by omega)
          have x31 := c31d [x] 0 0 j (by simp) rfl bx (by omega)
          have hn : ek l i D[i]! x (j + 1) = if (decide (l[j].cpu = l[i].cpu) = false ∧ D[i].testBit j = true) ∧ x.testBit j = false then ek l i D[i]! x j ++ [((j : Int), (i : Int))] else ek l i D[i]! x j := by rw [ek, gj, gk, gD]
          obtain ⟨b1, hb1⟩ : ∃ b, D[i].testBit j = b := ⟨_, rfl⟩
          obtain ⟨b2, hb2⟩ : ∃ b, x.testBit j = b := ⟨_, rfl⟩
          rw [hb1] at b31
          rw [show [x][0].testBit j = b2 from hb2] at x31
          rw [hb1, hb2] at hn
          have hF := ek_len l i D[i]! x j
          generalize ek l i D[i]! x j = F at *
          have hq : (e :: (r ++ F)).length ≤ 5000 := by simp only [List.length_cons, List.length_append] at hEl ⊢; omega
          repeat' ((conv => whnf); first
              | refine Branch.ofT rfl ?_
              | refine Branch.ofF rfl ?_
              | refine Branch.ofT (decide_eq_true (by omega)) ?_
              | refine Branch.dec (fun h => ?_) (fun h => ?_)
              | refine Branch.negdec (fun h => ?_) (fun h => ?_)
              | refine Branch.neg (fun h => ?_) (fun h => ?_)
              | refine Branch.mk (fun h => ?_) (fun h => ?_)
              | (refine Side.mk ?_ ?_; · first | omega | decide)
              | (refine SideD.mk ?_ ?_; · first | omega | decide)
              | refine ⟨_, Nat.lt_succ_self _, To.refl (.inl ⟨rfl, ?_⟩)⟩
              | refine nt0 hjt ?_
              | refine nt0 hkt ?_
              | (refine frz1 rfl (dA _) rfl ?_)
              | refine QCallA.of b31 rfl rfl ?_
              | refine QCallA.of x31 rfl rfl ?_
              | refine Side.mk (app2 (e :: (r ++ F)) _ _ hq) ?_
              | (refine Side.mk ?_ ?_; · (simp; done))
              | fail
              )
          all_goals (conv => whnf)
          all_goals first
            | (have hn' : (e :: r) ++ ek l i D[i]! x (j + 1) = e :: ((r ++ F) ++ [((j : Int), (i : Int))]) := by
                rw [hn, if_pos ⟨⟨decide_eq_false ‹¬ l[j].cpu = l[i].cpu›, ‹b1 = true›⟩, ‹b2 = false›⟩]; simp
               exact ⟨i - (j + 1), by omega, To.gc [(0, true), (1, true), (2, true), (27, true)] [0, 3, 4, 5, 6, 7, 16, 17, 35, 36] rfl ⟨dS _, dS _, dS [_], datA (e :: (r ++ F)) _ _, trivial⟩ ⟨j + 1, by omega, rfl, by rw [hn', ← oV_app]; rfl, by rw [hn', ← HI_app]; rfl⟩⟩)
            | (have hn' : ek l i D[i]! x (j + 1) = F := by
                rw [hn, if_neg (fun q => by obtain ⟨⟨q1, q2⟩, q3⟩ := q; simp_all)]
               exact ⟨i - (j + 1), by omega, To.gc [(0, true), (1, true), (2, true), (3, true)] [0, 3, 4, 5, 6, 7, 16, 17, 35, 36] rfl ⟨dS _, dS _, dS [_], dE (e :: (r ++ F)), trivial⟩ ⟨j + 1, by omega, rfl, by rw [hn']; rfl, by rw [hn']; rfl⟩⟩)
        · have : j = i := by omega
          subst this
          generalize ek l j D[j]! x j = F at *
          repeat' ((conv => whnf); first
              | refine Branch.ofT rfl ?_
              | refine Branch.ofF rfl ?_
              | refine Branch.ofF (decide_eq_false (by omega)) ?_
              | refine Branch.dec (fun h => ?_) (fun h => ?_)
              | refine Branch.negdec (fun h => ?_) (fun h => ?_)
              | refine Branch.neg (fun h => ?_) (fun h => ?_)
              | refine Branch.mk (fun h => ?_) (fun h => ?_)
              | (refine Side.mk ?_ ?_; · first | omega | decide)
              | (refine SideD.mk ?_ ?_; · first | omega | decide)
              | refine ⟨_, Nat.lt_succ_self _, To.refl (.inl ⟨rfl, ?_⟩)⟩
              | (refine Side.mk ?_ ?_; · (simp; done))
              | fail
              )
          all_goals (conv => whnf)
          exact ⟨l.length - (j + 1), by omega, To.gc [(0, true), (1, true), (3, true)] [0, 3, 4, 5, 16, 17] rfl ⟨dS _, dS _, dE (e :: (r ++ F)), trivial⟩ ⟨j + 1, by omega, rfl, by rw [hes]; rfl, by rw [hes]; rfl⟩⟩
  · have : k = l.length := by omega
    subst this
    generalize es l D W l.length = E at *
    cases E with
    | nil =>
      repeat' ((conv => whnf); first
          | refine Branch.ofT rfl ?_
          | refine Branch.ofF rfl ?_
          | refine Branch.ofF (decide_eq_false (by omega)) ?_
          | refine Branch.dec (fun h => ?_) (fun h => ?_)
          | refine Branch.negdec (fun h => ?_) (fun h => ?_)
          | refine Branch.neg (fun h => ?_) (fun h => ?_)
          | refine Branch.mk (fun h => ?_) (fun h => ?_)
          | (refine Side.mk ?_ ?_; · first | omega | decide)
          | (refine SideD.mk ?_ ?_; · first | omega | decide)
          | refine ⟨_, Nat.lt_succ_self _, To.refl (.inl ⟨rfl, ?_⟩)⟩
          | (refine Side.mk ?_ ?_; · (simp; done))
          | fail
          )
      all_goals (conv => whnf)
      exact RetA.gc [(0, true), (1, true)] rfl ⟨dS _, dS _, trivial⟩ ⟨rfl, rfl⟩
    | cons e r =>
      repeat' ((conv => whnf); first
          | refine Branch.ofT rfl ?_
          | refine Branch.ofF rfl ?_
          | refine Branch.ofF (decide_eq_false (by omega)) ?_
          | refine Branch.dec (fun h => ?_) (fun h => ?_)
          | refine Branch.negdec (fun h => ?_) (fun h => ?_)
          | refine Branch.neg (fun h => ?_) (fun h => ?_)
          | refine Branch.mk (fun h => ?_) (fun h => ?_)
          | (refine Side.mk ?_ ?_; · first | omega | decide)
          | (refine SideD.mk ?_ ?_; · first | omega | decide)
          | refine ⟨_, Nat.lt_succ_self _, To.refl (.inl ⟨rfl, ?_⟩)⟩
          | (refine Side.mk ?_ ?_; · (simp; done))
          | fail
          )
      all_goals (conv => whnf)
      exact RetA.gc [(0, true), (1, true), (2, true)] rfl ⟨dS _, dS _, dE (e :: r), trivial⟩ ⟨rfl, rfl⟩
end Go.Proofs

namespace Go.Proofs
open Go Go.Eng
set_option maxRecDepth 100000
set_option maxHeartbeats 2000000
/-- Bits, as cells. -/
def bb (S n : Nat) : List AV := (List.range n).map fun i => .bool (S.testBit i)
theorem bb_len (S n : Nat) : (bb S n).length = n := by simp [bb]
theorem bb_get (S n i : Nat) : (bb S n)[i]? = if i < n then some (.bool (S.testBit i)) else none := by
  simp only [bb, List.getElem?_map, List.getElem?_range]
  by_cases h : i < n <;> simp [h]
theorem bb_at {S n i : Nat} (h : i < n) : (bb S n).drop i = .bool (S.testBit i) :: (bb S n).drop (i + 1) := by
  have hl : i < (bb S n).length := by rw [bb_len]; exact h
  rw [List.drop_eq_getElem_cons hl]
  have : (bb S n)[i]? = some (.bool (S.testBit i)) := by rw [bb_get, if_pos h]
  rw [List.getElem?_eq_getElem hl, Option.some.injEq] at this
  rw [this]
theorem bb_noLoc (S n : Nat) : ∀ c ∈ bb S n, noLoc c = true := by
  intro c hc
  simp only [bb, List.mem_map] at hc
  obtain ⟨i, _, rfl⟩ := hc
  rfl
theorem bb_put {S S' n i : Nat} {b : Bool} (h : i < n) (hb : ∀ j, S'.testBit j = if i = j then b else S.testBit j) : (bb S n).take i ++ [.bool b] ++ (bb S n).drop (i + 1) = bb S' n := by
  have hl : i < (bb S n).length := by rw [bb_len]; exact h
  have : (bb S n).take i ++ [.bool b] ++ (bb S n).drop (i + 1) = (bb S n).set i (.bool b) := by
    rw [List.set_eq_take_append_cons_drop, if_pos hl]; simp
  rw [this]
  refine List.ext_getElem? fun j => ?_
  rw [List.getElem?_set, bb_get, bb_get, hb j]
  by_cases hij : i = j
  · subst hij; simp [hl, h]
  · simp [hij]
theorem nth_bb {S n i off : Nat} (h : i < n) (ho : off = i) {K : AV → Prop} (hk : K (.bool (S.testBit i))) : nthK 0 ((bb S n).drop off) K := by
  subst ho
  exact nthK_at (bb_at h) (by rw [fv_eq]; exact hk)
theorem lput_bb {S S' n i off : Nat} {b : Bool} (h : i < n) (ho : off = i) (hb : ∀ j, S'.testBit j = if i = j then b else S.testBit j) {K : List AV → Prop} (hk : K (bb S' n)) : lputK (bb S n) off [.bool b] K := by
  subst ho
  refine lputK_eq ?_ rfl ?_
  · rw [bb_len]; simp; omega
  · rw [show off + [AV.bool b].length = off + 1 from rfl, bb_put h hb]; exact hk
theorem set_bit (S i : Nat) : ∀ j, (S ||| 2 ^ i).testBit j = if i = j then true else S.testBit j := by
  intro j
  rw [Nat.testBit_or, Nat.testBit_two_pow]
  by_cases h : i = j <;> simp [h]
theorem rep_bb : ∀ n, rep [AV.bool false] n = bb 0 n := by
  have go : ∀ n, rep [AV.bool false] n = List.replicate n (.bool false) := by
    intro n
    induction n with
    | zero => rfl
    | succ n ih => rw [List.replicate_succ]; show _ :: rep _ n = _; rw [ih]
  intro n
  rw [go n]
  refine List.ext_getElem? fun j => ?_
  rw [bb_get, List.getElem?_replicate]
  simp
/-- The lower bits of another set are joined. -/
def join (S T : Nat) : Nat → Nat
  | 0 => S
  | x + 1 => if T.testBit x = true then join S T x ||| 2 ^ x else join S T x
theorem join_bit (S T : Nat) : ∀ (x j : Nat), (join S T x).testBit j = (S.testBit j || (decide (j < x) && T.testBit j))
  | 0, j => by simp [join]
  | x + 1, j => by
    have ih := join_bit S T x j
    simp only [join]
    by_cases ht : T.testBit x = true
    · rw [if_pos ht, set_bit, ih]
      by_cases hj : x = j
      · subst hj; simp [ht]
      · have : decide (j < x + 1) = decide (j < x) := by
          by_cases q : j < x
          · rw [decide_eq_true q, decide_eq_true (by omega)]
          · rw [decide_eq_false q, decide_eq_false (by omega)]
        simp [hj, this]
    · rw [if_neg ht, ih]
      by_cases hj : x = j
      · subst hj; simp at ht; simp [ht]
      · have : decide (j < x + 1) = decide (j < x) := by
          by_cases q : j < x
          · rw [decide_eq_true q, decide_eq_true (by omega)]
          · rw [decide_eq_false q, decide_eq_false (by omega)]
        rw [this]
theorem join_all {S T i : Nat} (h : T < 2 ^ i) : join S T i = S ||| T := by
  refine Nat.eq_of_testBit_eq fun j => ?_
  rw [join_bit, Nat.testBit_or]
  by_cases hj : j < i
  · simp [hj]
  · have : T.testBit j = false := Nat.testBit_lt_two_pow (Nat.lt_of_lt_of_le h (Nat.pow_le_pow_right (by decide) (by omega)))
    simp [this]
end Go.Proofs

