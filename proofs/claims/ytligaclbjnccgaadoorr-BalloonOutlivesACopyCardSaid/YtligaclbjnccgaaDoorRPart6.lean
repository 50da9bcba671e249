/- Part of a proof about the given program: lemmas that the other parts use. -/
import Derived.Test.YtligaclbjnccgaaDoorRPart4
import Derived.Test.YtligaclbjnccgaaDoorRProg
import Derived.KernelRfl
import Derived.Test.YtligaclbjnccgaaDoorRPart5

set_option linter.all false
set_option linter.unusedSimpArgs false
set_option linter.unusedVariables false
set_option maxRecDepth 100000
namespace Go.Proofs
open Go Go.Eng
/-- simulacrum/simulacrumlaw27.sanity -/
def ac8 : AC := (.seq (.reg [⟨some 0, .p (.mov (.c (.bool false))), none⟩])
  (.seq (.reg [⟨some 33, .call 9 [(.c (.int .i64 3)), (.c (.int .i64 1))], none⟩,
    ⟨some 32, .p (.mov (.t 33)), none⟩,
    ⟨some 34, .p (.extract 0 (.t 32)), none⟩,
    ⟨some 35, .p (.extract 1 (.t 32)), none⟩,
    ⟨some 1, .h (.alloc [.nils]), none⟩,
    ⟨none, .h (.store 1 (.t 1) (.t 34)), none⟩,
    ⟨some 2, .p (.mov (.t 35)), none⟩])
  (.seq (.reg [⟨some 36, .d (.bslice 1 2 [(.bool false)] [(0, (.c (.bool false))), (1, (.c (.bool true)))]), none⟩,
    ⟨some 3, .p (.mov (.t 36)), none⟩])
  (.seq (.reg [⟨some 38, .h (.load true 1 (.t 1)), none⟩,
    ⟨some 39, .p (.mov (.t 3)), none⟩,
    ⟨some 40, .call 14 [(.t 38), (.c (.int .i64 1)), (.t 39)], none⟩,
    ⟨some 37, .p (.mov (.t 40)), none⟩,
    ⟨some 41, .p (.extract 0 (.t 37)), none⟩,
    ⟨some 42, .p (.extract 1 (.t 37)), none⟩,
    ⟨some 4, .p (.mov (.t 41)), none⟩,
    ⟨some 5, .p (.mov (.t 42)), none⟩])
  (.seq (.reg [⟨some 44, .h (.load true 1 (.t 1)), none⟩,
    ⟨some 45, .call 15 [(.t 44), (.c (.int .i64 2)), (.c (.int .i64 0))], none⟩,
    ⟨some 43, .p (.mov (.t 45)), none⟩,
    ⟨some 46, .p (.extract 0 (.t 43)), none⟩,
    ⟨some 47, .p (.extract 1 (.t 43)), none⟩,
    ⟨some 6, .h (.alloc [.nils]), none⟩,
    ⟨none, .h (.store 1 (.t 6) (.t 46)), none⟩,
    ⟨some 7, .p (.mov (.t 47)), none⟩])
  (.seq (.reg [⟨some 49, .h (.load true 1 (.t 6)), none⟩,
    ⟨some 50, .call 15 [(.t 49), (.c (.int .i64 0)), (.c (.int .i64 (-1)))], none⟩,
    ⟨some 48, .p (.mov (.t 50)), none⟩,
    ⟨some 51, .p (.extract 0 (.t 48)), none⟩,
    ⟨some 52, .p (.extract 1 (.t 48)), none⟩,
    ⟨none, .h (.store 1 (.t 6) (.t 51)), none⟩,
    ⟨some 8, .p (.mov (.t 52)), none⟩])
  (.seq (.reg [⟨some 54, .h (.load true 1 (.t 6)), none⟩,
    ⟨some 55, .p (.mov (.t 3)), none⟩,
    ⟨some 56, .call 14 [(.t 54), (.c (.int .i64 0)), (.t 55)], none⟩,
    ⟨some 53, .p (.mov (.t 56)), none⟩,
    ⟨some 57, .p (.extract 0 (.t 53)), none⟩,
    ⟨some 58, .p (.extract 1 (.t 53)), none⟩,
    ⟨some 9, .p (.mov (.t 57)), none⟩,
    ⟨some 10, .p (.mov (.t 58)), none⟩])
  (.seq (.reg [⟨some 60, .h (.load true 1 (.t 6)), none⟩,
    ⟨some 61, .call 15 [(.t 60), (.c (.int .i64 1)), (.c (.int .i64 0))], none⟩,
    ⟨some 59, .p (.mov (.t 61)), none⟩,
    ⟨some 62, .p (.extract 0 (.t 59)), none⟩,
    ⟨some 63, .p (.extract 1 (.t 59)), none⟩,
    ⟨some 11, .h (.alloc [.nils]), none⟩,
    ⟨none, .h (.store 1 (.t 11) (.t 62)), none⟩,
    ⟨some 12, .p (.mov (.t 63)), none⟩])
  (.seq (.reg [⟨some 65, .h (.load true 1 (.t 6)), none⟩,
    ⟨some 66, .call 16 [(.t 65), (.c (.int .i64 2))], none⟩,
    ⟨some 64, .p (.mov (.t 66)), none⟩,
    ⟨some 67, .p (.extract 0 (.t 64)), none⟩,
    ⟨some 68, .p (.extract 1 (.t 64)), none⟩,
    ⟨some 69, .p (.extract 2 (.t 64)), none⟩,
    ⟨some 13, .h (.alloc [.nils]), none⟩,
    ⟨some 14, .h (.alloc [(.int .i64 0), (.int .i64 0)]), none⟩,
    ⟨none, .h (.store 1 (.t 13) (.t 67)), none⟩,
    ⟨none, .h (.store 2 (.t 14) (.t 68)), none⟩,
    ⟨some 15, .p (.mov (.t 69)), none⟩])
  (.seq (.seq (.reg [⟨some 70, .p (.mov (.t 2)), none⟩,
    ⟨some 71, .p (.bin .neq (.t 70) (.c (.int .i64 0))), none⟩,
    ⟨some 72, .p (.mov (.t 71)), none⟩,
    ⟨some 73, .p (.mov (.t 7)), (some (72, false))⟩,
    ⟨some 74, .p (.bin .neq (.t 73) (.c (.int .i64 0))), (some (72, false))⟩,
    ⟨some 75, .p (.pick (.t 72) (.c (.bool true)) (.t 74)), none⟩,
    ⟨some 76, .p (.mov (.t 75)), none⟩,
    ⟨some 77, .p (.mov (.t 8)), (some (76, false))⟩,
    ⟨some 78, .p (.bin .neq (.t 77) (.c (.int .i64 0))), (some (76, false))⟩,
    ⟨some 79, .p (.pick (.t 76) (.c (.bool true)) (.t 78)), none⟩,
    ⟨some 80, .p (.mov (.t 79)), none⟩,
    ⟨some 81, .p (.mov (.t 15)), (some (80, false))⟩,
    ⟨some 82, .p (.bin .neq (.t 81) (.c (.int .i64 0))), (some (80, false))⟩,
    ⟨some 83, .p (.pick (.t 80) (.c (.bool true)) (.t 82)), none⟩,
    ⟨some 84, .p (.mov (.t 83)), none⟩,
    ⟨some 85, .p (.mov (.t 5)), (some (84, false))⟩,
    ⟨some 86, .p (.un .not (.t 85)), (some (84, false))⟩,
    ⟨some 87, .p (.pick (.t 84) (.c (.bool true)) (.t 86)), none⟩,
    ⟨some 88, .p (.mov (.t 87)), none⟩,
    ⟨some 89, .p (.mov (.t 10)), (some (88, false))⟩,
    ⟨some 90, .p (.un .not (.t 89)), (some (88, false))⟩,
    ⟨some 91, .p (.pick (.t 88) (.c (.bool true)) (.t 90)), none⟩,
    ⟨some 92, .p (.mov (.t 91)), none⟩,
    ⟨some 93, .p (.mov (.t 4)), (some (92, false))⟩,
    ⟨some 94, .p (.bin .neq (.t 93) (.c (.int .i64 2))), (some (92, false))⟩,
    ⟨some 95, .p (.pick (.t 92) (.c (.bool true)) (.t 94)), none⟩,
    ⟨some 96, .p (.mov (.t 95)), none⟩,
    ⟨some 97, .p (.mov (.t 9)), (some (96, false))⟩,
    ⟨some 98, .p (.bin .neq (.t 97) (.c (.int .i64 1))), (some (96, false))⟩,
    ⟨some 99, .p (.pick (.t 96) (.c (.bool true)) (.t 98)), none⟩,
    ⟨some 100, .p (.mov (.t 99)), none⟩,
    ⟨some 101, .p (.mov (.t 12)), (some (100, false))⟩,
    ⟨some 102, .p (.bin .neq (.t 101) (.c (.int .i64 1))), (some (100, false))⟩,
    ⟨some 103, .p (.pick (.t 100) (.c (.bool true)) (.t 102)), none⟩,
    ⟨some 104, .p (.mov (.t 103)), none⟩,
    ⟨some 105, .p (.fieldA 0 (.t 14)), (some (104, false))⟩,
    ⟨some 106, .h (.load false 1 (.t 105)), (some (104, false))⟩,
    ⟨some 107, .p (.bin .neq (.t 106) (.c (.int .i64 3))), (some (104, false))⟩,
    ⟨some 108, .p (.pick (.t 104) (.c (.bool true)) (.t 107)), none⟩,
    ⟨some 109, .p (.mov (.t 108)), none⟩,
    ⟨some 110, .p (.fieldA 1 (.t 14)), (some (109, false))⟩,
    ⟨some 111, .h (.load false 1 (.t 110)), (some (109, false))⟩,
    ⟨some 112, .p (.bin .neq (.t 111) (.c (.int .i64 0))), (some (109, false))⟩,
    ⟨some 113, .p (.pick (.t 109) (.c (.bool true)) (.t 112)), none⟩,
    ⟨some 114, .p (.mov (.t 113)), none⟩,
    ⟨some 115, .p (.fieldA 0 (.t 13)), (some (114, false))⟩,
    ⟨some 116, .h (.load false 1 (.t 115)), (some (114, false))⟩,
    ⟨some 117, .p (.len false (.t 116)), (some (114, false))⟩,
    ⟨some 118, .p (.bin .neq (.t 117) (.c (.int .i64 3))), (some (114, false))⟩,
    ⟨some 119, .p (.pick (.t 114) (.c (.bool true)) (.t 118)), none⟩,
    ⟨some 120, .p (.mov (.t 119)), none⟩,
    ⟨some 121, .p (.fieldA 0 (.t 13)), (some (120, false))⟩,
    ⟨some 122, .h (.load false 1 (.t 121)), (some (120, false))⟩,
    ⟨some 123, .p (.idxA 2 none (.t 122) (.c (.int .i64 2))), (some (120, false))⟩,
    ⟨some 124, .p (.fieldA 0 (.t 123)), (some (120, false))⟩,
    ⟨some 125, .h (.load false 1 (.t 124)), (some (120, false))⟩,
    ⟨some 126, .p (.bin .neq (.t 125) (.c (.int .i64 1))), (some (120, false))⟩,
    ⟨some 127, .p (.pick (.t 120) (.c (.bool true)) (.t 126)), none⟩])
  (.cond (.t 127) (.seq (.reg [⟨some 0, .p (.mov (.c (.bool false))), none⟩])
  .ret) .skip))
  (.seq (.reg [⟨some 128, .call 22 [(.c (.int .i64 13))], none⟩,
    ⟨some 16, .p (.mov (.t 128)), none⟩])
  (.seq (.seq (.reg [⟨some 129, .p (.mov (.t 16)), none⟩,
    ⟨some 130, .v (.isnil true false (.t 129) (.c .nilp)), none⟩])
  (.cond (.t 130) (.seq (.reg [⟨some 0, .p (.mov (.c (.bool false))), none⟩])
  .ret) .skip))
  (.seq (.reg [⟨some 131, .p (.mov (.t 16)), none⟩,
    ⟨some 132, .call 23 [(.t 131)], none⟩,
    ⟨some 17, .p (.mov (.t 132)), none⟩])
  (.seq (.seq (.reg [⟨some 133, .p (.mov (.t 17)), none⟩,
    ⟨some 134, .v (.isnil true false (.t 133) (.c .nilp)), none⟩,
    ⟨some 135, .p (.mov (.t 134)), none⟩,
    ⟨some 136, .p (.mov (.t 17)), (some (135, false))⟩,
    ⟨some 137, .call 30 [(.t 136)], (some (135, false))⟩,
    ⟨some 138, .p (.bin .neq (.t 137) (.c (.int .i64 2))), (some (135, false))⟩,
    ⟨some 139, .p (.pick (.t 135) (.c (.bool true)) (.t 138)), none⟩])
  (.cond (.t 139) (.seq (.reg [⟨some 0, .p (.mov (.c (.bool false))), none⟩])
  .ret) .skip))
  (.seq (.reg [⟨some 140, .v (.build [(.int .u8 0), (.int .u8 0), (.int .u8 0), (.int .u8 0), (.int .u8 0), (.int .u8 0), (.int .u8 0), (.int .u8 0), (.int .u8 0), (.int .u8 0), (.int .u8 0), (.int .u8 0), (.int .u8 0), (.int .u8 0), (.int .u8 0), (.int .u8 0), (.int .u8 0), (.int .u8 0), (.int .u8 0), (.int .u8 0), (.int .u8 0), (.int .u8 0), (.int .u8 0), (.int .u8 0), (.int .u8 0), (.int .u8 0), (.int .u8 0), (.int .u8 0), (.int .u8 0), (.int .u8 0), (.int .u8 0), (.int .u8 0), (.int .u8 0), (.int .u8 0), (.int .u8 0), (.int .u8 0), (.int .u8 0), (.int .u8 0), (.int .u8 0), (.int .u8 0), (.int .u8 0), (.int .u8 0), (.int .u8 0), (.int .u8 0), (.int .u8 0), (.int .u8 0), (.int .u8 0), (.int .u8 0), (.int .u8 0), (.int .u8 0), (.int .u8 0), (.int .u8 0), (.int .u8 0), (.int .u8 0), (.int .u8 0), (.int .u8 0), (.int .u8 0), (.int .u8 0), (.int .u8 0), (.int .u8 0), (.int .u8 0), (.int .u8 0), (.int .u8 0), (.int .u8 0), (.int .u8 0), (.int .u8 0), (.int .u8 0), (.int .u8 0), (.int .u8 0), (.int .u8 0), (.int .u8 0), (.int .u8 0), (.int .u8 0), (.int .u8 0), (.int .u8 0), (.int .u8 0), (.int .u8 0), (.int .u8 0), (.int .u8 0), (.int .u8 0), (.int .u8 0), (.int .u8 0), (.int .u8 0), (.int .u8 0), (.int .u8 0), (.int .u8 0), (.int .u8 0), (.int .u8 0), (.int .u8 0), (.int .u8 0), (.int .u8 0), (.int .u8 0), (.int .u8 0), (.int .u8 0), (.int .u8 0), (.int .u8 0), (.int .u8 0), (.int .u8 0), (.int .u8 0), (.int .u8 0), (.int .u8 0), (.int .u8 0), (.int .u8 0), (.int .u8 0), (.int .u8 0), (.int .u8 0), (.int .u8 0), (.int .u8 0), (.int .u8 0), (.int .u8 0), (.int .u8 0), (.int .u8 0), (.int .u8 0), (.int .u8 0), (.int .u8 0), (.int .u8 0), (.int .u8 0), (.int .u8 0), (.int .u8 0), (.int .u8 0), (.int .u8 0), (.int .u8 0), (.int .u8 0), (.int .u8 0), (.int .u8 0), (.int .u8 0), (.int .u8 0), (.int .u8 0)] [(0, 1, (.c (.int .u8 1))), (1, 1, (.c (.int .u8 2))), (2, 1, (.c (.int .u8 3)))]), none⟩,
    ⟨some 18, .h (.alloc [(.int .u8 0), (.int .u8 0), (.int .u8 0), (.int .u8 0), (.int .u8 0), (.int .u8 0), (.int .u8 0), (.int .u8 0), (.int .u8 0), (.int .u8 0), (.int .u8 0), (.int .u8 0), (.int .u8 0), (.int .u8 0), (.int .u8 0), (.int .u8 0), (.int .u8 0), (.int .u8 0), (.int .u8 0), (.int .u8 0), (.int .u8 0), (.int .u8 0), (.int .u8 0), (.int .u8 0), (.int .u8 0), (.int .u8 0), (.int .u8 0), (.int .u8 0), (.int .u8 0), (.int .u8 0), (.int .u8 0), (.int .u8 0), (.int .u8 0), (.int .u8 0), (.int .u8 0), (.int .u8 0), (.int .u8 0), (.int .u8 0), (.int .u8 0), (.int .u8 0), (.int .u8 0), (.int .u8 0), (.int .u8 0), (.int .u8 0), (.int .u8 0), (.int .u8 0), (.int .u8 0), (.int .u8 0), (.int .u8 0), (.int .u8 0), (.int .u8 0), (.int .u8 0), (.int .u8 0), (.int .u8 0), (.int .u8 0), (.int .u8 0), (.int .u8 0), (.int .u8 0), (.int .u8 0), (.int .u8 0), (.int .u8 0), (.int .u8 0), (.int .u8 0), (.int .u8 0), (.int .u8 0), (.int .u8 0), (.int .u8 0), (.int .u8 0), (.int .u8 0), (.int .u8 0), (.int .u8 0), (.int .u8 0), (.int .u8 0), (.int .u8 0), (.int .u8 0), (.int .u8 0), (.int .u8 0), (.int .u8 0), (.int .u8 0), (.int .u8 0), (.int .u8 0), (.int .u8 0), (.int .u8 0), (.int .u8 0), (.int .u8 0), (.int .u8 0), (.int .u8 0), (.int .u8 0), (.int .u8 0), (.int .u8 0), (.int .u8 0), (.int .u8 0), (.int .u8 0), (.int .u8 0), (.int .u8 0), (.int .u8 0), (.int .u8 0), (.int .u8 0), (.int .u8 0), (.int .u8 0), (.int .u8 0), (.int .u8 0), (.int .u8 0), (.int .u8 0), (.int .u8 0), (.int .u8 0), (.int .u8 0), (.int .u8 0), (.int .u8 0), (.int .u8 0), (.int .u8 0), (.int .u8 0), (.int .u8 0), (.int .u8 0), (.int .u8 0), (.int .u8 0), (.int .u8 0), (.int .u8 0), (.int .u8 0), (.int .u8 0), (.int .u8 0), (.int .u8 0), (.int .u8 0), (.int .u8 0), (.int .u8 0), (.int .u8 0), (.int .u8 0), (.int .u8 0)]), none⟩,
    ⟨none, .h (.store 128 (.t 18) (.t 140)), none⟩])
  (.seq (.reg [⟨some 141, .p (.idxA 1 (some 128) (.t 18) (.c (.int .i64 127))), none⟩,
    ⟨none, .h (.store 1 (.t 141) (.c (.int .u8 9))), none⟩])
  (.seq (.reg [⟨some 143, .p (.mov (.t 17)), none⟩,
    ⟨some 144, .h (.load true 128 (.t 18)), none⟩,
    ⟨some 145, .call 24 [(.t 143), (.t 144)], none⟩,
    ⟨some 142, .p (.mov (.t 145)), none⟩,
    ⟨some 146, .p (.extract 0 (.t 142)), none⟩,
    ⟨some 147, .p (.extract 1 (.t 142)), none⟩,
    ⟨some 19, .p (.mov (.t 146)), none⟩,
    ⟨some 20, .p (.mov (.t 147)), none⟩])
  (.seq (.reg [⟨some 149, .p (.mov (.t 17)), none⟩,
    ⟨some 150, .v (.build [(.int .u8 0), (.int .u8 0), (.int .u8 0), (.int .u8 0), (.int .u8 0), (.int .u8 0), (.int .u8 0), (.int .u8 0), (.int .u8 0), (.int .u8 0), (.int .u8 0), (.int .u8 0), (.int .u8 0), (.int .u8 0), (.int .u8 0), (.int .u8 0), (.int .u8 0), (.int .u8 0), (.int .u8 0), (.int .u8 0), (.int .u8 0), (.int .u8 0), (.int .u8 0), (.int .u8 0), (.int .u8 0), (.int .u8 0), (.int .u8 0), (.int .u8 0), (.int .u8 0), (.int .u8 0), (.int .u8 0), (.int .u8 0), (.int .u8 0), (.int .u8 0), (.int .u8 0), (.int .u8 0), (.int .u8 0), (.int .u8 0), (.int .u8 0), (.int .u8 0), (.int .u8 0), (.int .u8 0), (.int .u8 0), (.int .u8 0), (.int .u8 0), (.int .u8 0), (.int .u8 0), (.int .u8 0), (.int .u8 0), (.int .u8 0), (.int .u8 0), (.int .u8 0), (.int .u8 0), (.int .u8 0), (.int .u8 0), (.int .u8 0), (.int .u8 0), (.int .u8 0), (.int .u8 0), (.int .u8 0), (.int .u8 0), (.int .u8 0), (.int .u8 0), (.int .u8 0), (.int .u8 0), (.int .u8 0), (.int .u8 0), (.int .u8 0), (.int .u8 0), (.int .u8 0), (.int .u8 0), (.int .u8 0), (.int .u8 0), (.int .u8 0), (.int .u8 0), (.int .u8 0), (.int .u8 0), (.int .u8 0), (.int .u8 0), (.int .u8 0), (.int .u8 0), (.int .u8 0), (.int .u8 0), (.int .u8 0), (.int .u8 0), (.int .u8 0), (.int .u8 0), (.int .u8 0), (.int .u8 0), (.int .u8 0), (.int .u8 0), (.int .u8 0), (.int .u8 0), (.int .u8 0), (.int .u8 0), (.int .u8 0), (.int .u8 0), (.int .u8 0), (.int .u8 0), (.int .u8 0), (.int .u8 0), (.int .u8 0), (.int .u8 0), (.int .u8 0), (.int .u8 0), (.int .u8 0), (.int .u8 0), (.int .u8 0), (.int .u8 0), (.int .u8 0), (.int .u8 0), (.int .u8 0), (.int .u8 0), (.int .u8 0), (.int .u8 0), (.int .u8 0), (.int .u8 0), (.int .u8 0), (.int .u8 0), (.int .u8 0), (.int .u8 0), (.int .u8 0), (.int .u8 0), (.int .u8 0), (.int .u8 0), (.int .u8 0), (.int .u8 0), (.int .u8 0)] []), none⟩,
    ⟨some 151, .call 24 [(.t 149), (.t 150)], none⟩,
    ⟨some 148, .p (.mov (.t 151)), none⟩,
    ⟨some 152, .p (.extract 0 (.t 148)), none⟩,
    ⟨some 153, .p (.extract 1 (.t 148)), none⟩,
    ⟨some 21, .p (.mov (.t 152)), none⟩,
    ⟨some 22, .p (.mov (.t 153)), none⟩])
  (.seq (.reg [⟨some 155, .p (.mov (.t 17)), none⟩,
    ⟨some 156, .h (.load true 128 (.t 18)), none⟩,
    ⟨some 157, .call 24 [(.t 155), (.t 156)], none⟩,
    ⟨some 154, .p (.mov (.t 157)), none⟩,
    ⟨some 158, .p (.extract 0 (.t 154)), none⟩,
    ⟨some 159, .p (.extract 1 (.t 154)), none⟩,
    ⟨some 23, .p (.mov (.t 158)), none⟩,
    ⟨some 24, .p (.mov (.t 159)), none⟩])
  (.seq (.reg [⟨some 160, .p (.mov (.t 16)), none⟩,
    ⟨some 161, .call 25 [(.t 160), (.c (.int .i64 1))], none⟩,
    ⟨some 25, .p (.mov (.t 161)), none⟩])
  (.seq (.reg [⟨some 163, .p (.mov (.t 17)), none⟩,
    ⟨some 164, .call 27 [(.t 163), (.c (.int .i64 0))], none⟩,
    ⟨some 162, .p (.mov (.t 164)), none⟩,
    ⟨some 165, .p (.extract 0 (.t 162)), none⟩,
    ⟨some 166, .p (.extract 1 (.t 162)), none⟩,
    ⟨some 26, .h (.alloc [(.int .u8 0), (.int .u8 0), (.int .u8 0), (.int .u8 0), (.int .u8 0), (.int .u8 0), (.int .u8 0), (.int .u8 0), (.int .u8 0), (.int .u8 0), (.int .u8 0), (.int .u8 0), (.int .u8 0), (.int .u8 0), (.int .u8 0), (.int .u8 0), (.int .u8 0), (.int .u8 0), (.int .u8 0), (.int .u8 0), (.int .u8 0), (.int .u8 0), (.int .u8 0), (.int .u8 0), (.int .u8 0), (.int .u8 0), (.int .u8 0), (.int .u8 0), (.int .u8 0), (.int .u8 0), (.int .u8 0), (.int .u8 0), (.int .u8 0), (.int .u8 0), (.int .u8 0), (.int .u8 0), (.int .u8 0), (.int .u8 0), (.int .u8 0), (.int .u8 0), (.int .u8 0), (.int .u8 0), (.int .u8 0), (.int .u8 0), (.int .u8 0), (.int .u8 0), (.int .u8 0), (.int .u8 0), (.int .u8 0), (.int .u8 0), (.int .u8 0), (.int .u8 0), (.int .u8 0), (.int .u8 0), (.int .u8 0), (.int .u8 0), (.int .u8 0), (.int .u8 0), (.int .u8 0), (.int .u8 0), (.int .u8 0), (.int .u8 0), (.int .u8 0), (.int .u8 0), (.int .u8 0), (.int .u8 0), (.int .u8 0), (.int .u8 0), (.int .u8 0), (.int .u8 0), (.int .u8 0), (.int .u8 0), (.int .u8 0), (.int .u8 0), (.int .u8 0), (.int .u8 0), (.int .u8 0), (.int .u8 0), (.int .u8 0), (.int .u8 0), (.int .u8 0), (.int .u8 0), (.int .u8 0), (.int .u8 0), (.int .u8 0), (.int .u8 0), (.int .u8 0), (.int .u8 0), (.int .u8 0), (.int .u8 0), (.int .u8 0), (.int .u8 0), (.int .u8 0), (.int .u8 0), (.int .u8 0), (.int .u8 0), (.int .u8 0), (.int .u8 0), (.int .u8 0), (.int .u8 0), (.int .u8 0), (.int .u8 0), (.int .u8 0), (.int .u8 0), (.int .u8 0), (.int .u8 0), (.int .u8 0), (.int .u8 0), (.int .u8 0), (.int .u8 0), (.int .u8 0), (.int .u8 0), (.int .u8 0), (.int .u8 0), (.int .u8 0), (.int .u8 0), (.int .u8 0), (.int .u8 0), (.int .u8 0), (.int .u8 0), (.int .u8 0), (.int .u8 0), (.int .u8 0), (.int .u8 0), (.int .u8 0), (.int .u8 0), (.int .u8 0), (.int .u8 0)]), none⟩,
    ⟨none, .h (.store 128 (.t 26) (.t 165)), none⟩,
    ⟨some 27, .p (.mov (.t 166)), none⟩])
  (.seq (.reg [⟨some 167, .p (.mov (.t 16)), none⟩,
    ⟨some 168, .call 25 [(.t 167), (.c (.int .i64 5))], none⟩,
    ⟨some 28, .p (.mov (.t 168)), none⟩])
  (.seq (.reg [⟨some 170, .p (.mov (.t 17)), none⟩,
    ⟨some 171, .call 27 [(.t 170), (.c (.int .i64 0))], none⟩,
    ⟨some 169, .p (.mov (.t 171)), none⟩,
    ⟨some 172, .p (.extract 0 (.t 169)), none⟩,
    ⟨some 173, .p (.extract 1 (.t 169)), none⟩,
    ⟨some 29, .h (.alloc [(.int .u8 0), (.int .u8 0), (.int .u8 0), (.int .u8 0), (.int .u8 0), (.int .u8 0), (.int .u8 0), (.int .u8 0), (.int .u8 0), (.int .u8 0), (.int .u8 0), (.int .u8 0), (.int .u8 0), (.int .u8 0), (.int .u8 0), (.int .u8 0), (.int .u8 0), (.int .u8 0), (.int .u8 0), (.int .u8 0), (.int .u8 0), (.int .u8 0), (.int .u8 0), (.int .u8 0), (.int .u8 0), (.int .u8 0), (.int .u8 0), (.int .u8 0), (.int .u8 0), (.int .u8 0), (.int .u8 0), (.int .u8 0), (.int .u8 0), (.int .u8 0), (.int .u8 0), (.int .u8 0), (.int .u8 0), (.int .u8 0), (.int .u8 0), (.int .u8 0), (.int .u8 0), (.int .u8 0), (.int .u8 0), (.int .u8 0), (.int .u8 0), (.int .u8 0), (.int .u8 0), (.int .u8 0), (.int .u8 0), (.int .u8 0), (.int .u8 0), (.int .u8 0), (.int .u8 0), (.int .u8 0), (.int .u8 0), (.int .u8 0), (.int .u8 0), (.int .u8 0), (.int .u8 0), (.int .u8 0), (.int .u8 0), (.int .u8 0), (.int .u8 0), (.int .u8 0), (.int .u8 0), (.int .u8 0), (.int .u8 0), (.int .u8 0), (.int .u8 0), (.int .u8 0), (.int .u8 0), (.int .u8 0), (.int .u8 0), (.int .u8 0), (.int .u8 0), (.int .u8 0), (.int .u8 0), (.int .u8 0), (.int .u8 0), (.int .u8 0), (.int .u8 0), (.int .u8 0), (.int .u8 0), (.int .u8 0), (.int .u8 0), (.int .u8 0), (.int .u8 0), (.int .u8 0), (.int .u8 0), (.int .u8 0), (.int .u8 0), (.int .u8 0), (.int .u8 0), (.int .u8 0), (.int .u8 0), (.int .u8 0), (.int .u8 0), (.int .u8 0), (.int .u8 0), (.int .u8 0), (.int .u8 0), (.int .u8 0), (.int .u8 0), (.int .u8 0), (.int .u8 0), (.int .u8 0), (.int .u8 0), (.int .u8 0), (.int .u8 0), (.int .u8 0), (.int .u8 0), (.int .u8 0), (.int .u8 0), (.int .u8 0), (.int .u8 0), (.int .u8 0), (.int .u8 0), (.int .u8 0), (.int .u8 0), (.int .u8 0), (.int .u8 0), (.int .u8 0), (.int .u8 0), (.int .u8 0), (.int .u8 0), (.int .u8 0), (.int .u8 0), (.int .u8 0)]), none⟩,
    ⟨none, .h (.store 128 (.t 29) (.t 172)), none⟩,
    ⟨some 30, .p (.mov (.t 173)), none⟩])
  (.seq (.reg [⟨some 174, .p (.mov (.t 20)), none⟩,
    ⟨some 175, .p (.bin .eql (.t 174) (.c (.int .i64 0))), none⟩,
    ⟨some 176, .p (.mov (.t 175)), none⟩,
    ⟨some 177, .p (.mov (.t 22)), (some (176, true))⟩,
    ⟨some 178, .p (.bin .eql (.t 177) (.c (.int .i64 0))), (some (176, true))⟩,
    ⟨some 179, .p (.pick (.t 176) (.t 178) (.c (.bool false))), none⟩,
    ⟨some 180, .p (.mov (.t 179)), none⟩,
    ⟨some 181, .p (.mov (.t 19)), (some (180, true))⟩,
    ⟨some 182, .p (.bin .eql (.t 181) (.c (.int .i64 0))), (some (180, true))⟩,
    ⟨some 183, .p (.pick (.t 180) (.t 182) (.c (.bool false))), none⟩,
    ⟨some 184, .p (.mov (.t 183)), none⟩,
    ⟨some 185, .p (.mov (.t 21)), (some (184, true))⟩,
    ⟨some 186, .p (.bin .eql (.t 185) (.c (.int .i64 1))), (some (184, true))⟩,
    ⟨some 187, .p (.pick (.t 184) (.t 186) (.c (.bool false))), none⟩,
    ⟨some 188, .p (.mov (.t 187)), none⟩,
    ⟨some 189, .p (.mov (.t 24)), (some (188, true))⟩,
    ⟨some 190, .p (.bin .eql (.t 189) (.c (.int .i64 270))), (some (188, true))⟩,
    ⟨some 191, .p (.pick (.t 188) (.t 190) (.c (.bool false))), none⟩,
    ⟨some 192, .p (.mov (.t 191)), none⟩,
    ⟨some 193, .p (.mov (.t 25)), (some (192, true))⟩,
    ⟨some 194, .p (.bin .eql (.t 193) (.c (.int .i64 0))), (some (192, true))⟩,
    ⟨some 195, .p (.pick (.t 192) (.t 194) (.c (.bool false))), none⟩,
    ⟨some 196, .p (.mov (.t 195)), none⟩,
    ⟨some 197, .p (.mov (.t 28)), (some (196, true))⟩,
    ⟨some 198, .p (.bin .eql (.t 197) (.c (.int .i64 0))), (some (196, true))⟩,
    ⟨some 199, .p (.pick (.t 196) (.t 198) (.c (.bool false))), none⟩,
    ⟨some 31, .p (.mov (.t 199)), none⟩])
  (.seq (.reg [⟨some 200, .p (.mov (.t 31)), none⟩,
    ⟨some 201, .p (.mov (.t 200)), none⟩,
    ⟨some 202, .p (.mov (.t 27)), (some (201, true))⟩,
    ⟨some 203, .p (.bin .eql (.t 202) (.c (.int .i64 0))), (some (201, true))⟩,
    ⟨some 204, .p (.pick (.t 201) (.t 203) (.c (.bool false))), none⟩,
    ⟨some 205, .p (.mov (.t 204)), none⟩,
    ⟨some 206, .h (.load true 128 (.t 26)), (some (205, true))⟩,
    ⟨some 207, .h (.load true 128 (.t 18)), (some (205, true))⟩,
    ⟨some 208, .v (.eqa false [(.i .u8), (.i .u8), (.i .u8), (.i .u8), (.i .u8), (.i .u8), (.i .u8), (.i .u8), (.i .u8), (.i .u8), (.i .u8), (.i .u8), (.i .u8), (.i .u8), (.i .u8), (.i .u8), (.i .u8), (.i .u8), (.i .u8), (.i .u8), (.i .u8), (.i .u8), (.i .u8), (.i .u8), (.i .u8), (.i .u8), (.i .u8), (.i .u8), (.i .u8), (.i .u8), (.i .u8), (.i .u8), (.i .u8), (.i .u8), (.i .u8), (.i .u8), (.i .u8), (.i .u8), (.i .u8), (.i .u8), (.i .u8), (.i .u8), (.i .u8), (.i .u8), (.i .u8), (.i .u8), (.i .u8), (.i .u8), (.i .u8), (.i .u8), (.i .u8), (.i .u8), (.i .u8), (.i .u8), (.i .u8), (.i .u8), (.i .u8), (.i .u8), (.i .u8), (.i .u8), (.i .u8), (.i .u8), (.i .u8), (.i .u8), (.i .u8), (.i .u8), (.i .u8), (.i .u8), (.i .u8), (.i .u8), (.i .u8), (.i .u8), (.i .u8), (.i .u8), (.i .u8), (.i .u8), (.i .u8), (.i .u8), (.i .u8), (.i .u8), (.i .u8), (.i .u8), (.i .u8), (.i .u8), (.i .u8), (.i .u8), (.i .u8), (.i .u8), (.i .u8), (.i .u8), (.i .u8), (.i .u8), (.i .u8), (.i .u8), (.i .u8), (.i .u8), (.i .u8), (.i .u8), (.i .u8), (.i .u8), (.i .u8), (.i .u8), (.i .u8), (.i .u8), (.i .u8), (.i .u8), (.i .u8), (.i .u8), (.i .u8), (.i .u8), (.i .u8), (.i .u8), (.i .u8), (.i .u8), (.i .u8), (.i .u8), (.i .u8), (.i .u8), (.i .u8), (.i .u8), (.i .u8), (.i .u8), (.i .u8), (.i .u8), (.i .u8), (.i .u8), (.i .u8), (.i .u8)] (.t 206) (.t 207)), (some (205, true))⟩,
    ⟨some 209, .p (.pick (.t 205) (.t 208) (.c (.bool false))), none⟩,
    ⟨some 210, .p (.mov (.t 209)), none⟩,
    ⟨some 211, .p (.mov (.t 30)), (some (210, true))⟩,
    ⟨some 212, .p (.bin .eql (.t 211) (.c (.int .i64 271))), (some (210, true))⟩,
    ⟨some 213, .p (.pick (.t 210) (.t 212) (.c (.bool false))), none⟩,
    ⟨some 214, .p (.mov (.t 213)), none⟩,
    ⟨some 215, .h (.load true 1 (.t 6)), (some (214, true))⟩,
    ⟨some 216, .call 20 [(.t 215), (.c (.int .i64 2))], (some (214, true))⟩,
    ⟨some 217, .p (.bin .eql (.t 216) (.c (.int .i64 1))), (some (214, true))⟩,
    ⟨some 218, .p (.pick (.t 214) (.t 217) (.c (.bool false))), none⟩,
    ⟨some 219, .p (.mov (.t 218)), none⟩,
    ⟨some 220, .h (.load true 1 (.t 6)), (some (219, true))⟩,
    ⟨some 221, .call 12 [(.t 220)], (some (219, true))⟩,
    ⟨some 222, .p (.pick (.t 219) (.t 221) (.c (.bool false))), none⟩,
    ⟨some 0, .p (.mov (.t 222)), none⟩])
  .ret)))))))))))))))))))))))))
def rs8 : List AR := [.tmp 0]
theorem ok8 : okF Tryd.prog 8 223 ac8 rs8 = true := by kernel_rfl
/-- simulacrum/balloon.New -/
def ac9 : AC := (.seq (.reg [⟨some 4, .h (.alloc [.nils]), none⟩,
    ⟨some 5, .p (.mov (.c (.int .i64 0))), none⟩])
  (.seq (.seq (.reg [⟨some 6, .p (.mov (.t 0)), none⟩,
    ⟨some 7, .p (.bin .lss (.t 6) (.c (.int .i64 1))), none⟩,
    ⟨some 8, .p (.mov (.t 7)), none⟩,
    ⟨some 9, .p (.mov (.t 0)), (some (8, false))⟩,
    ⟨some 10, .p (.bin .gtr (.t 9) (.c (.int .i64 64))), (some (8, false))⟩,
    ⟨some 11, .p (.pick (.t 8) (.c (.bool true)) (.t 10)), none⟩,
    ⟨some 12, .p (.mov (.t 11)), none⟩,
    ⟨some 13, .p (.mov (.t 1)), (some (12, false))⟩,
    ⟨some 14, .p (.bin .eql (.t 13) (.c (.int .i64 3))), (some (12, false))⟩,
    ⟨some 15, .p (.pick (.t 12) (.c (.bool true)) (.t 14)), none⟩,
    ⟨some 16, .p (.mov (.t 15)), none⟩,
    ⟨some 17, .p (.mov (.t 1)), (some (16, false))⟩,
    ⟨some 18, .p (.bin .lss (.t 17) (.c (.int .i64 1))), (some (16, false))⟩,
    ⟨some 19, .p (.pick (.t 16) (.c (.bool true)) (.t 18)), none⟩,
    ⟨some 20, .p (.mov (.t 19)), none⟩,
    ⟨some 21, .p (.mov (.t 1)), (some (20, false))⟩,
    ⟨some 22, .p (.bin .gtr (.t 21) (.c (.int .i64 4))), (some (20, false))⟩,
    ⟨some 23, .p (.pick (.t 20) (.c (.bool true)) (.t 22)), none⟩])
  (.cond (.t 23) (.seq (.reg [⟨some 24, .v (.build [.nils] []), none⟩,
    ⟨none, .h (.store 1 (.t 4) (.t 24)), none⟩,
    ⟨some 5, .p (.mov (.c (.int .i64 1))), none⟩])
  .ret) .skip))
  (.seq (.reg [⟨some 25, .p (.mov (.t 1)), none⟩,
    ⟨some 26, .v (.build [(.int .i64 0), (.int .i64 0)] [(0, 1, (.t 25))]), none⟩,
    ⟨some 27, .d (.bslice 2 1 [(.int .i64 0), (.int .i64 0)] [(0, (.t 26))]), none⟩,
    ⟨some 28, .p (.mov (.t 0)), none⟩,
    ⟨some 29, .call 31 [(.t 27), (.t 28)], none⟩,
    ⟨some 30, .v (.build [.nils] [(0, 1, (.t 29))]), none⟩,
    ⟨none, .h (.store 1 (.t 4) (.t 30)), none⟩,
    ⟨some 5, .p (.mov (.c (.int .i64 0))), none⟩])
  .ret)))
def rs9 : List AR := [.cell 4 true 1, .tmp 5]
theorem ok9 : okF Tryd.prog 9 31 ac9 rs9 = true := by kernel_rfl
/-- simulacrum/balloon.Valid -/
def ac12 : AC := (.seq (.reg [⟨some 1, .h (.box (.t 0)), none⟩,
    ⟨some 2, .p (.mov (.c (.bool false))), none⟩])
  (.seq (.reg [⟨some 7, .m .mk, none⟩,
    ⟨some 3, .p (.mov (.t 7)), none⟩])
  (.seq (.seq (.reg [⟨some 8, .p (.fieldA 0 (.t 1)), none⟩,
    ⟨some 9, .h (.load false 1 (.t 8)), none⟩,
    ⟨some 10, .p (.len false (.t 9)), none⟩,
    ⟨some 11, .p (.mov (.c (.int .i64 0))), none⟩])
  (.block 0 (.loop (.seq (.reg [⟨some 12, .p (.bin .lss (.t 11) (.t 10)), none⟩])
  (.seq (.cond (.t 12) .skip (.exit 0))
  (.seq (.block 1 (.seq (.reg [⟨some 13, .p (.idxA 2 none (.t 9) (.t 11)), none⟩,
    ⟨some 14, .h (.load true 2 (.t 13)), none⟩,
    ⟨some 5, .h (.alloc [(.int .i64 0), (.int .i64 0)]), none⟩,
    ⟨none, .h (.store 2 (.t 5) (.t 14)), none⟩])
  (.seq (.reg [⟨some 15, .p (.fieldA 0 (.t 5)), none⟩,
    ⟨some 16, .h (.load false 1 (.t 15)), none⟩,
    ⟨some 17, .p (.bin .eql (.t 16) (.c (.int .i64 3))), none⟩,
    ⟨some 6, .p (.mov (.t 17)), none⟩])
  (.seq (.seq (.reg [⟨some 18, .p (.fieldA 0 (.t 5)), none⟩,
    ⟨some 19, .h (.load false 1 (.t 18)), none⟩,
    ⟨some 20, .p (.bin .lss (.t 19) (.c (.int .i64 1))), none⟩,
    ⟨some 21, .p (.mov (.t 20)), none⟩,
    ⟨some 22, .p (.fieldA 0 (.t 5)), (some (21, false))⟩,
    ⟨some 23, .h (.load false 1 (.t 22)), (some (21, false))⟩,
    ⟨some 24, .p (.bin .gtr (.t 23) (.c (.int .i64 4))), (some (21, false))⟩,
    ⟨some 25, .p (.pick (.t 21) (.c (.bool true)) (.t 24)), none⟩,
    ⟨some 26, .p (.mov (.t 25)), none⟩,
    ⟨some 27, .p (.fieldA 1 (.t 5)), (some (26, false))⟩,
    ⟨some 28, .h (.load false 1 (.t 27)), (some (26, false))⟩,
    ⟨some 29, .p (.bin .lss (.t 28) (.c (.int .i64 0))), (some (26, false))⟩,
    ⟨some 30, .p (.pick (.t 26) (.c (.bool true)) (.t 29)), none⟩,
    ⟨some 31, .p (.mov (.t 30)), none⟩,
    ⟨some 32, .p (.mov (.t 6)), (some (31, false))⟩,
    ⟨some 33, .p (.un .not (.t 32)), (some (31, false))⟩,
    ⟨some 34, .p (.mov (.t 33)), (some (31, false))⟩,
    ⟨some 35, .p (.fieldA 1 (.t 5)), (some (34, true))⟩,
    ⟨some 36, .h (.load false 1 (.t 35)), (some (34, true))⟩,
    ⟨some 37, .p (.bin .neq (.t 36) (.c (.int .i64 0))), (some (34, true))⟩,
    ⟨some 38, .p (.pick (.t 34) (.t 37) (.c (.bool false))), (some (31, false))⟩,
    ⟨some 39, .p (.pick (.t 31) (.c (.bool true)) (.t 38)), none⟩,
    ⟨some 40, .p (.mov (.t 39)), none⟩,
    ⟨some 41, .p (.mov (.t 6)), (some (40, false))⟩,
    ⟨some 42, .p (.mov (.t 41)), (some (40, false))⟩,
    ⟨some 43, .p (.mov (.t 3)), (some (42, true))⟩,
    ⟨some 44, .p (.fieldA 1 (.t 5)), (some (42, true))⟩,
    ⟨some 45, .h (.load false 1 (.t 44)), (some (42, true))⟩,
    ⟨some 46, .m (.get false (.c (.i .i64)) (.bool false) (.t 43) (.t 45)), (some (42, true))⟩,
    ⟨some 47, .p (.pick (.t 42) (.t 46) (.c (.bool false))), (some (40, false))⟩,
    ⟨some 48, .p (.pick (.t 40) (.c (.bool true)) (.t 47)), none⟩])
  (.cond (.t 48) (.seq (.reg [⟨some 2, .p (.mov (.c (.bool false))), none⟩])
  .ret) .skip))
  (.reg [⟨some 49, .p (.mov (.t 3)), none⟩,
    ⟨some 50, .p (.fieldA 1 (.t 5)), none⟩,
    ⟨some 51, .h (.load false 1 (.t 50)), none⟩,
    ⟨some 52, .p (.mov (.t 3)), none⟩,
    ⟨some 53, .p (.fieldA 1 (.t 5)), none⟩,
    ⟨some 54, .h (.load false 1 (.t 53)), none⟩,
    ⟨some 55, .m (.get false (.c (.i .i64)) (.bool false) (.t 52) (.t 54)), none⟩,
    ⟨some 56, .p (.mov (.t 55)), none⟩,
    ⟨some 57, .p (.mov (.t 6)), (some (56, false))⟩,
    ⟨some 58, .p (.pick (.t 56) (.c (.bool true)) (.t 57)), none⟩,
    ⟨none, .m (.set (.c (.i .i64)) (.t 49) (.t 51) (.t 58)), none⟩])))))
  (.reg [⟨some 59, .p (.bin .add (.t 11) (.c (.int .i64 1))), none⟩,
    ⟨some 11, .p (.mov (.t 59)), none⟩])))))))
  (.seq (.reg [⟨some 60, .p (.fieldA 0 (.t 1)), none⟩,
    ⟨some 61, .h (.load false 1 (.t 60)), none⟩,
    ⟨some 62, .p (.len false (.t 61)), none⟩,
    ⟨some 63, .p (.bin .geq (.t 62) (.c (.int .i64 1))), none⟩,
    ⟨some 64, .p (.mov (.t 63)), none⟩,
    ⟨some 65, .p (.fieldA 0 (.t 1)), (some (64, true))⟩,
    ⟨some 66, .h (.load false 1 (.t 65)), (some (64, true))⟩,
    ⟨some 67, .p (.len false (.t 66)), (some (64, true))⟩,
    ⟨some 68, .p (.bin .leq (.t 67) (.c (.int .i64 64))), (some (64, true))⟩,
    ⟨some 69, .p (.pick (.t 64) (.t 68) (.c (.bool false))), none⟩,
    ⟨some 2, .p (.mov (.t 69)), none⟩])
  .ret))))
def rs12 : List AR := [.tmp 2]
theorem ok12 : okF Tryd.prog 12 70 ac12 rs12 = true := by kernel_rfl
/-- simulacrum/balloon.Victim -/
def ac14 : AC := (.seq (.reg [⟨some 3, .h (.box (.t 0)), none⟩,
    ⟨some 6, .p (.mov (.c (.int .i64 0))), none⟩,
    ⟨some 7, .p (.mov (.c (.bool false))), none⟩])
  (.seq (.reg [⟨some 8, .p (.mov (.c (.int .i64 (-1)))), none⟩])
  (.seq (.seq (.reg [⟨some 11, .p (.fieldA 0 (.t 3)), none⟩,
    ⟨some 12, .h (.load false 1 (.t 11)), none⟩,
    ⟨some 13, .p (.len false (.t 12)), none⟩,
    ⟨some 14, .p (.mov (.c (.int .i64 0))), none⟩])
  (.block 0 (.loop (.seq (.reg [⟨some 15, .p (.bin .lss (.t 14) (.t 13)), none⟩])
  (.seq (.cond (.t 15) .skip (.exit 0))
  (.seq (.block 1 (.seq (.reg [⟨some 16, .p (.mov (.t 14)), none⟩,
    ⟨some 9, .p (.mov (.t 16)), none⟩])
  (.seq (.draw 13 [] [⟨some 17, .p (.mov (.t 1)), none⟩,
    ⟨some 18, .p (.mm true (.t 17) (.c (.int .i64 0))), none⟩,
    ⟨some 19, .p (.fieldA 0 (.t 3)), none⟩,
    ⟨some 20, .h (.load false 1 (.t 19)), none⟩,
    ⟨some 21, .p (.len false (.t 20)), none⟩,
    ⟨some 22, .p (.bin .rem (.t 18) (.t 21)), none⟩,
    ⟨some 23, .p (.mov (.t 9)), none⟩,
    ⟨some 24, .p (.bin .add (.t 22) (.t 23)), none⟩,
    ⟨some 25, .p (.fieldA 0 (.t 3)), none⟩,
    ⟨some 26, .h (.load false 1 (.t 25)), none⟩,
    ⟨some 27, .p (.len false (.t 26)), none⟩,
    ⟨some 28, .p (.bin .rem (.t 24) (.t 27)), none⟩,
    ⟨some 10, .p (.mov (.t 28)), none⟩])
  (.block 2 (.seq (.reg [⟨some 30, .p (.fieldA 0 (.t 3)), none⟩,
    ⟨some 31, .h (.load false 1 (.t 30)), none⟩,
    ⟨some 32, .p (.mov (.t 10)), none⟩,
    ⟨some 33, .p (.idxA 2 none (.t 31) (.t 32)), none⟩,
    ⟨some 34, .p (.fieldA 0 (.t 33)), none⟩,
    ⟨some 35, .h (.load false 1 (.t 34)), none⟩,
    ⟨some 36, .p (.bin .neq (.t 35) (.c (.int .i64 1))), none⟩,
    ⟨some 29, .p (.mov (.t 36)), none⟩])
  (.cond (.t 29) .skip (.seq (.reg [⟨some 38, .p (.mov (.t 10)), none⟩,
    ⟨some 39, .p (.mov (.t 2)), none⟩,
    ⟨some 40, .p (.len false (.t 39)), none⟩,
    ⟨some 41, .p (.bin .geq (.t 38) (.t 40)), none⟩,
    ⟨some 42, .p (.mov (.t 41)), none⟩,
    ⟨some 43, .p (.mov (.t 2)), (some (42, false))⟩,
    ⟨some 44, .p (.mov (.t 10)), (some (42, false))⟩,
    ⟨some 45, .p (.idxA 1 none (.t 43) (.t 44)), (some (42, false))⟩,
    ⟨some 46, .h (.load false 1 (.t 45)), (some (42, false))⟩,
    ⟨some 47, .p (.un .not (.t 46)), (some (42, false))⟩,
    ⟨some 48, .p (.pick (.t 42) (.c (.bool true)) (.t 47)), none⟩,
    ⟨some 37, .p (.mov (.t 48)), none⟩])
  (.cond (.t 37) (.seq (.reg [⟨some 49, .p (.mov (.t 10)), none⟩,
    ⟨some 6, .p (.mov (.t 49)), none⟩,
    ⟨some 7, .p (.mov (.c (.bool true))), none⟩])
  .ret) (.seq (.reg [⟨some 51, .p (.mov (.t 8)), none⟩,
    ⟨some 52, .p (.bin .lss (.t 51) (.c (.int .i64 0))), none⟩,
    ⟨some 50, .p (.mov (.t 52)), none⟩])
  (.cond (.t 50) (.reg [⟨some 53, .p (.mov (.t 10)), none⟩,
    ⟨some 8, .p (.mov (.t 53)), none⟩]) .skip))))))))))
  (.reg [⟨some 54, .p (.bin .add (.t 14) (.c (.int .i64 1))), none⟩,
    ⟨some 14, .p (.mov (.t 54)), none⟩])))))))
  (.seq (.reg [⟨some 55, .p (.mov (.t 8)), none⟩,
    ⟨some 56, .p (.mm true (.t 55) (.c (.int .i64 0))), none⟩,
    ⟨some 57, .p (.mov (.t 8)), none⟩,
    ⟨some 58, .p (.bin .geq (.t 57) (.c (.int .i64 0))), none⟩,
    ⟨some 6, .p (.mov (.t 56)), none⟩,
    ⟨some 7, .p (.mov (.t 58)), none⟩])
  .ret))))
def rs14 : List AR := [.tmp 6, .tmp 7]
theorem ok14 : okF Tryd.prog 14 59 ac14 rs14 = true := by kernel_rfl
/-- simulacrum/balloon.Give -/
def ac15 : AC := (.seq (.reg [⟨some 3, .h (.box (.t 0)), none⟩,
    ⟨some 6, .h (.alloc [.nils]), none⟩,
    ⟨some 7, .p (.mov (.c (.int .i64 0))), none⟩])
  (.seq (.reg [⟨some 10, .p (.mov (.t 2)), none⟩,
    ⟨some 11, .v (.build [(.int .i64 0), (.int .i64 0)] [(0, 1, (.c (.int .i64 3))), (1, 1, (.t 10))]), none⟩,
    ⟨some 8, .h (.alloc [(.int .i64 0), (.int .i64 0)]), none⟩,
    ⟨none, .h (.store 2 (.t 8) (.t 11)), none⟩])
  (.seq (.block 0 (.seq (.reg [⟨some 13, .p (.mov (.t 1)), none⟩,
    ⟨some 14, .p (.bin .lss (.t 13) (.c (.int .i64 0))), none⟩,
    ⟨some 15, .p (.mov (.t 14)), none⟩,
    ⟨some 16, .p (.mov (.t 1)), (some (15, false))⟩,
    ⟨some 17, .p (.fieldA 0 (.t 3)), (some (15, false))⟩,
    ⟨some 18, .h (.load false 1 (.t 17)), (some (15, false))⟩,
    ⟨some 19, .p (.len false (.t 18)), (some (15, false))⟩,
    ⟨some 20, .p (.bin .geq (.t 16) (.t 19)), (some (15, false))⟩,
    ⟨some 21, .p (.pick (.t 15) (.c (.bool true)) (.t 20)), none⟩,
    ⟨some 12, .p (.mov (.t 21)), none⟩])
  (.cond (.t 12) (.seq (.reg [⟨some 22, .h (.load true 1 (.t 3)), none⟩,
    ⟨none, .h (.store 1 (.t 6) (.t 22)), none⟩,
    ⟨some 7, .p (.mov (.c (.int .i64 5))), none⟩])
  .ret) (.seq (.reg [⟨some 24, .p (.mov (.t 2)), none⟩,
    ⟨some 25, .p (.bin .lss (.t 24) (.c (.int .i64 (-1)))), none⟩,
    ⟨some 26, .p (.mov (.t 25)), none⟩,
    ⟨some 27, .p (.mov (.t 2)), (some (26, false))⟩,
    ⟨some 28, .p (.bin .geq (.t 27) (.c (.int .i64 0))), (some (26, false))⟩,
    ⟨some 29, .p (.mov (.t 28)), (some (26, false))⟩,
    ⟨some 30, .p (.fieldA 0 (.t 3)), (some (29, true))⟩,
    ⟨some 31, .h (.load false 1 (.t 30)), (some (29, true))⟩,
    ⟨some 32, .h (.load true 2 (.t 8)), (some (29, true))⟩,
    ⟨some 33, .call 33 [(.t 31), (.t 32)], (some (29, true))⟩,
    ⟨some 34, .p (.pick (.t 29) (.t 33) (.c (.bool false))), (some (26, false))⟩,
    ⟨some 35, .p (.pick (.t 26) (.c (.bool true)) (.t 34)), none⟩,
    ⟨some 23, .p (.mov (.t 35)), none⟩])
  (.cond (.t 23) (.seq (.reg [⟨some 36, .h (.load true 1 (.t 3)), none⟩,
    ⟨none, .h (.store 1 (.t 6) (.t 36)), none⟩,
    ⟨some 7, .p (.mov (.c (.int .i64 1))), none⟩])
  .ret) (.seq (.reg [⟨some 38, .p (.fieldA 0 (.t 3)), none⟩,
    ⟨some 39, .h (.load false 1 (.t 38)), none⟩,
    ⟨some 40, .p (.mov (.t 1)), none⟩,
    ⟨some 41, .p (.idxA 2 none (.t 39) (.t 40)), none⟩,
    ⟨some 42, .p (.fieldA 0 (.t 41)), none⟩,
    ⟨some 43, .h (.load false 1 (.t 42)), none⟩,
    ⟨some 44, .p (.bin .neq (.t 43) (.c (.int .i64 1))), none⟩,
    ⟨some 37, .p (.mov (.t 44)), none⟩])
  (.cond (.t 37) (.seq (.reg [⟨some 45, .h (.load true 1 (.t 3)), none⟩,
    ⟨none, .h (.store 1 (.t 6) (.t 45)), none⟩,
    ⟨some 7, .p (.mov (.c (.int .i64 4))), none⟩])
  .ret) .skip)))))))
  (.seq (.seq (.reg [⟨some 46, .p (.mov (.t 2)), none⟩,
    ⟨some 47, .p (.bin .lss (.t 46) (.c (.int .i64 0))), none⟩])
  (.cond (.t 47) (.reg [⟨some 48, .v (.build [(.int .i64 0), (.int .i64 0)] [(0, 1, (.c (.int .i64 2)))]), none⟩,
    ⟨none, .h (.store 2 (.t 8) (.t 48)), none⟩]) .skip))
  (.seq (.reg [⟨some 49, .p (.fieldA 0 (.t 3)), none⟩,
    ⟨some 50, .h (.load false 1 (.t 49)), none⟩,
    ⟨some 51, .call 34 [(.t 50)], none⟩,
    ⟨some 9, .p (.mov (.t 51)), none⟩])
  (.seq (.reg [⟨some 52, .p (.mov (.t 9)), none⟩,
    ⟨some 53, .p (.mov (.t 1)), none⟩,
    ⟨some 54, .h (.load true 2 (.t 8)), none⟩,
    ⟨some 55, .p (.idxA 2 none (.t 52) (.t 53)), none⟩,
    ⟨none, .h (.store 2 (.t 55) (.t 54)), none⟩])
  (.seq (.reg [⟨some 56, .p (.mov (.t 9)), none⟩,
    ⟨some 57, .v (.build [.nils] [(0, 1, (.t 56))]), none⟩,
    ⟨none, .h (.store 1 (.t 6) (.t 57)), none⟩,
    ⟨some 7, .p (.mov (.c (.int .i64 0))), none⟩])
  .ret)))))))
def rs15 : List AR := [.cell 6 true 1, .tmp 7]
theorem ok15 : okF Tryd.prog 15 58 ac15 rs15 = true := by kernel_rfl
/-- simulacrum/balloon.Take -/
def ac16 : AC := (.seq (.reg [⟨some 2, .h (.box (.t 0)), none⟩,
    ⟨some 4, .h (.alloc [.nils]), none⟩,
    ⟨some 5, .h (.alloc [(.int .i64 0), (.int .i64 0)]), none⟩,
    ⟨some 6, .p (.mov (.c (.int .i64 0))), none⟩])
  (.seq (.block 0 (.seq (.reg [⟨some 9, .p (.mov (.t 1)), none⟩,
    ⟨some 10, .p (.bin .lss (.t 9) (.c (.int .i64 0))), none⟩,
    ⟨some 11, .p (.mov (.t 10)), none⟩,
    ⟨some 12, .p (.mov (.t 1)), (some (11, false))⟩,
    ⟨some 13, .p (.fieldA 0 (.t 2)), (some (11, false))⟩,
    ⟨some 14, .h (.load false 1 (.t 13)), (some (11, false))⟩,
    ⟨some 15, .p (.len false (.t 14)), (some (11, false))⟩,
    ⟨some 16, .p (.bin .geq (.t 12) (.t 15)), (some (11, false))⟩,
    ⟨some 17, .p (.pick (.t 11) (.c (.bool true)) (.t 16)), none⟩,
    ⟨some 8, .p (.mov (.t 17)), none⟩])
  (.cond (.t 8) (.seq (.reg [⟨some 18, .h (.load true 1 (.t 2)), none⟩,
    ⟨some 19, .v (.build [(.int .i64 0), (.int .i64 0)] []), none⟩,
    ⟨none, .h (.store 1 (.t 4) (.t 18)), none⟩,
    ⟨none, .h (.store 2 (.t 5) (.t 19)), none⟩,
    ⟨some 6, .p (.mov (.c (.int .i64 5))), none⟩])
  .ret) (.seq (.reg [⟨some 21, .p (.fieldA 0 (.t 2)), none⟩,
    ⟨some 22, .h (.load false 1 (.t 21)), none⟩,
    ⟨some 23, .p (.mov (.t 1)), none⟩,
    ⟨some 24, .p (.idxA 2 none (.t 22) (.t 23)), none⟩,
    ⟨some 25, .p (.fieldA 0 (.t 24)), none⟩,
    ⟨some 26, .h (.load false 1 (.t 25)), none⟩,
    ⟨some 27, .p (.bin .eql (.t 26) (.c (.int .i64 1))), none⟩,
    ⟨some 20, .p (.mov (.t 27)), none⟩])
  (.cond (.t 20) (.seq (.reg [⟨some 28, .h (.load true 1 (.t 2)), none⟩,
    ⟨some 29, .v (.build [(.int .i64 0), (.int .i64 0)] []), none⟩,
    ⟨none, .h (.store 1 (.t 4) (.t 28)), none⟩,
    ⟨none, .h (.store 2 (.t 5) (.t 29)), none⟩,
    ⟨some 6, .p (.mov (.c (.int .i64 4))), none⟩])
  .ret) .skip)))))
  (.seq (.reg [⟨some 30, .p (.fieldA 0 (.t 2)), none⟩,
    ⟨some 31, .h (.load false 1 (.t 30)), none⟩,
    ⟨some 32, .call 34 [(.t 31)], none⟩,
    ⟨some 7, .p (.mov (.t 32)), none⟩])
  (.seq (.reg [⟨some 33, .p (.mov (.t 7)), none⟩,
    ⟨some 34, .p (.mov (.t 1)), none⟩,
    ⟨some 35, .v (.build [(.int .i64 0), (.int .i64 0)] [(0, 1, (.c (.int .i64 1)))]), none⟩,
    ⟨some 36, .p (.idxA 2 none (.t 33) (.t 34)), none⟩,
    ⟨none, .h (.store 2 (.t 36) (.t 35)), none⟩])
  (.seq (.draw 10 [(6, 8), (7, 8), (3, 8)] [⟨some 37, .p (.mov (.t 7)), none⟩,
    ⟨some 38, .v (.build [.nils] [(0, 1, (.t 37))]), none⟩,
    ⟨some 39, .p (.fieldA 0 (.t 2)), none⟩,
    ⟨some 40, .h (.load false 1 (.t 39)), none⟩,
    ⟨some 41, .p (.mov (.t 1)), none⟩,
    ⟨some 42, .p (.idxA 2 none (.t 40) (.t 41)), none⟩,
    ⟨some 43, .h (.load true 2 (.t 42)), none⟩,
    ⟨none, .h (.store 1 (.t 4) (.t 38)), none⟩,
    ⟨none, .h (.store 2 (.t 5) (.t 43)), none⟩,
    ⟨some 6, .p (.mov (.c (.int .i64 0))), none⟩])
  .ret)))))
def rs16 : List AR := [.cell 4 true 1, .cell 5 true 2, .tmp 6]
theorem ok16 : okF Tryd.prog 16 44 ac16 rs16 = true := by kernel_rfl
/-- simulacrum/balloon.Count -/
def ac20 : AC := (.seq (.reg [⟨some 2, .h (.box (.t 0)), none⟩,
    ⟨some 4, .p (.mov (.c (.int .i64 0))), none⟩])
  (.seq (.reg [⟨some 5, .p (.mov (.c (.int .i64 0))), none⟩])
  (.seq (.seq (.reg [⟨some 8, .p (.fieldA 0 (.t 2)), none⟩,
    ⟨some 9, .h (.load false 1 (.t 8)), none⟩,
    ⟨some 10, .p (.len false (.t 9)), none⟩,
    ⟨some 11, .p (.mov (.c (.int .i64 0))), none⟩])
  (.block 0 (.loop (.seq (.reg [⟨some 12, .p (.bin .lss (.t 11) (.t 10)), none⟩])
  (.seq (.cond (.t 12) .skip (.exit 0))
  (.seq (.block 1 (.seq (.reg [⟨some 13, .p (.idxA 2 none (.t 9) (.t 11)), none⟩,
    ⟨some 14, .h (.load true 2 (.t 13)), none⟩,
    ⟨some 7, .h (.alloc [(.int .i64 0), (.int .i64 0)]), none⟩,
    ⟨none, .h (.store 2 (.t 7) (.t 14)), none⟩])
  (.seq (.reg [⟨some 15, .p (.fieldA 0 (.t 7)), none⟩,
    ⟨some 16, .h (.load false 1 (.t 15)), none⟩,
    ⟨some 17, .p (.mov (.t 1)), none⟩,
    ⟨some 18, .p (.bin .eql (.t 16) (.t 17)), none⟩])
  (.cond (.t 18) (.reg [⟨some 19, .p (.mov (.t 5)), none⟩,
    ⟨some 20, .p (.bin .add (.t 19) (.c (.int .i64 1))), none⟩,
    ⟨some 5, .p (.mov (.t 20)), none⟩]) .skip))))
  (.reg [⟨some 21, .p (.bin .add (.t 11) (.c (.int .i64 1))), none⟩,
    ⟨some 11, .p (.mov (.t 21)), none⟩])))))))
  (.seq (.reg [⟨some 22, .p (.mov (.t 5)), none⟩,
    ⟨some 4, .p (.mov (.t 22)), none⟩])
  .ret))))
def rs20 : List AR := [.tmp 4]
theorem ok20 : okF Tryd.prog 20 23 ac20 rs20 = true := by kernel_rfl
/-- simulacrum/disk.New -/
def ac22 : AC := (.seq (.reg [⟨some 2, .p (.mov (.c .nilp)), none⟩])
  (.seq (.seq (.reg [⟨some 3, .p (.mov (.t 0)), none⟩,
    ⟨some 4, .p (.bin .lss (.t 3) (.c (.int .i64 1))), none⟩,
    ⟨some 5, .p (.mov (.t 4)), none⟩,
    ⟨some 6, .p (.mov (.t 0)), (some (5, false))⟩,
    ⟨some 7, .p (.bin .gtr (.t 6) (.c (.int .i64 65536))), (some (5, false))⟩,
    ⟨some 8, .p (.pick (.t 5) (.c (.bool true)) (.t 7)), none⟩])
  (.cond (.t 8) (.seq (.reg [⟨some 2, .p (.mov (.c .nilp)), none⟩])
  .ret) .skip))
  (.seq (.reg [⟨some 9, .p (.mov (.t 0)), none⟩,
    ⟨some 10, .l (.make 65 65 [(.int .u8 0), (.int .u8 0), (.int .u8 0), (.int .u8 0), (.int .u8 0), (.int .u8 0), (.int .u8 0), (.int .u8 0), (.int .u8 0), (.int .u8 0), (.int .u8 0), (.int .u8 0), (.int .u8 0), (.int .u8 0), (.int .u8 0), (.int .u8 0), (.int .u8 0), (.int .u8 0), (.int .u8 0), (.int .u8 0), (.int .u8 0), (.int .u8 0), (.int .u8 0), (.int .u8 0), (.int .u8 0), (.int .u8 0), (.int .u8 0), (.int .u8 0), (.int .u8 0), (.int .u8 0), (.int .u8 0), (.int .u8 0), (.int .u8 0), (.int .u8 0), (.int .u8 0), (.int .u8 0), (.int .u8 0), (.int .u8 0), (.int .u8 0), (.int .u8 0), (.int .u8 0), (.int .u8 0), (.int .u8 0), (.int .u8 0), (.int .u8 0), (.int .u8 0), (.int .u8 0), (.int .u8 0), (.int .u8 0), (.int .u8 0), (.int .u8 0), (.int .u8 0), (.int .u8 0), (.int .u8 0), (.int .u8 0), (.int .u8 0), (.int .u8 0), (.int .u8 0), (.int .u8 0), (.int .u8 0), (.int .u8 0), (.int .u8 0), (.int .u8 0), (.int .u8 0), (.bool false)] (.t 9)), none⟩,
    ⟨some 11, .m .mk, none⟩,
    ⟨some 12, .v (.build [.nils, .nilm, (.int .i64 0), (.int .i64 0), (.bool false)] [(0, 1, (.t 10)), (1, 1, (.t 11)), (3, 1, (.c (.int .i64 (-1))))]), none⟩,
    ⟨some 13, .h (.box (.t 12)), none⟩,
    ⟨some 2, .p (.mov (.t 13)), none⟩])
  .ret)))
def rs22 : List AR := [.tmp 2]
theorem ok22 : okF Tryd.prog 22 14 ac22 rs22 = true := by kernel_rfl
/-- simulacrum/balloon.Open -/
def ac23 : AC := (.seq (.reg [⟨some 2, .p (.mov (.c .nilp)), none⟩])
  (.seq (.reg [⟨some 3, .p (.mov (.t 0)), none⟩,
    ⟨some 4, .m .mk, none⟩,
    ⟨some 5, .v (.build [.nilp, .nilm] [(0, 1, (.t 3)), (1, 1, (.t 4))]), none⟩,
    ⟨some 6, .h (.box (.t 5)), none⟩,
    ⟨some 2, .p (.mov (.t 6)), none⟩])
  .ret))
def rs23 : List AR := [.tmp 2]
theorem ok23 : okF Tryd.prog 23 7 ac23 rs23 = true := by kernel_rfl
/-- (*simulacrum/balloon.Swap).Put -/
def ac24 : AC := (.seq (.reg [⟨some 3, .h (.box (.t 1)), none⟩,
    ⟨some 4, .p (.mov (.c (.int .i64 0))), none⟩,
    ⟨some 5, .p (.mov (.c (.int .i64 0))), none⟩])
  (.seq (.reg [⟨some 6, .p (.mov (.c (.int .i64 0))), none⟩])
  (.seq (.block 0 (.loop (.seq (.seq (.reg [⟨some 10, .p (.mov (.t 0)), none⟩,
    ⟨some 11, .p (.nilchk (.t 10)), none⟩,
    ⟨some 12, .p (.fieldA 1 (.t 11)), none⟩,
    ⟨some 13, .h (.load false 1 (.t 12)), none⟩,
    ⟨some 14, .p (.mov (.t 6)), none⟩,
    ⟨some 15, .m (.get false (.c (.i .i64)) (.bool false) (.t 13) (.t 14)), none⟩])
  (.cond (.t 15) .skip (.exit 0)))
  (.block 1 (.reg [⟨some 16, .p (.mov (.t 6)), none⟩,
    ⟨some 17, .p (.bin .add (.t 16) (.c (.int .i64 1))), none⟩,
    ⟨some 6, .p (.mov (.t 17)), none⟩])))))
  (.seq (.seq (.reg [⟨some 18, .p (.mov (.t 6)), none⟩,
    ⟨some 19, .p (.mov (.t 0)), none⟩,
    ⟨some 20, .call 30 [(.t 19)], none⟩,
    ⟨some 21, .p (.bin .geq (.t 18) (.t 20)), none⟩])
  (.cond (.t 21) (.seq (.reg [⟨some 4, .p (.mov (.c (.int .i64 0))), none⟩,
    ⟨some 5, .p (.mov (.c (.int .i64 270))), none⟩])
  .ret) .skip))
  (.seq (.draw 11 [(2, 9), (5, 9), (8, 9), (7, 9), (3, 9), (0, 9)] [⟨some 22, .d (.asub 1 128 (.t 3) none (some (.c (.int .i64 64)))), none⟩,
    ⟨some 23, .v (.s2a 64 (.t 22)), none⟩,
    ⟨some 24, .h (.load true 64 (.t 23)), none⟩,
    ⟨some 25, .d (.asub 1 128 (.t 3) (some (.c (.int .i64 64))) none), none⟩,
    ⟨some 26, .v (.s2a 64 (.t 25)), none⟩,
    ⟨some 27, .h (.load true 64 (.t 26)), none⟩,
    ⟨some 28, .p (.mov (.t 6)), none⟩,
    ⟨some 29, .h (.load true 128 (.t 3)), none⟩,
    ⟨some 30, .call 36 [(.t 28), (.t 29)], none⟩,
    ⟨some 31, .d (.bslice 64 3 [(.int .u8 0), (.int .u8 0), (.int .u8 0), (.int .u8 0), (.int .u8 0), (.int .u8 0), (.int .u8 0), (.int .u8 0), (.int .u8 0), (.int .u8 0), (.int .u8 0), (.int .u8 0), (.int .u8 0), (.int .u8 0), (.int .u8 0), (.int .u8 0), (.int .u8 0), (.int .u8 0), (.int .u8 0), (.int .u8 0), (.int .u8 0), (.int .u8 0), (.int .u8 0), (.int .u8 0), (.int .u8 0), (.int .u8 0), (.int .u8 0), (.int .u8 0), (.int .u8 0), (.int .u8 0), (.int .u8 0), (.int .u8 0), (.int .u8 0), (.int .u8 0), (.int .u8 0), (.int .u8 0), (.int .u8 0), (.int .u8 0), (.int .u8 0), (.int .u8 0), (.int .u8 0), (.int .u8 0), (.int .u8 0), (.int .u8 0), (.int .u8 0), (.int .u8 0), (.int .u8 0), (.int .u8 0), (.int .u8 0), (.int .u8 0), (.int .u8 0), (.int .u8 0), (.int .u8 0), (.int .u8 0), (.int .u8 0), (.int .u8 0), (.int .u8 0), (.int .u8 0), (.int .u8 0), (.int .u8 0), (.int .u8 0), (.int .u8 0), (.int .u8 0), (.int .u8 0)] [(0, (.t 24)), (64, (.t 27)), (128, (.t 30))]), none⟩,
    ⟨some 7, .p (.mov (.t 31)), none⟩])
  (.seq (.seq (.reg [⟨some 32, .p (.mov (.t 7)), none⟩,
    ⟨some 33, .p (.mov (.t 7)), none⟩,
    ⟨some 34, .l (.append 64 64 (.t 32) (.t 33)), none⟩,
    ⟨some 35, .p (.len false (.t 34)), none⟩,
    ⟨some 36, .p (.mov (.c (.int .i64 0))), none⟩])
  (.block 2 (.loop (.seq (.reg [⟨some 37, .p (.bin .lss (.t 36) (.t 35)), none⟩])
  (.seq (.cond (.t 37) .skip (.exit 2))
  (.seq (.block 3 (.seq (.reg [⟨some 38, .p (.mov (.t 36)), none⟩,
    ⟨some 39, .p (.idxA 64 none (.t 34) (.t 36)), none⟩,
    ⟨some 40, .h (.load true 64 (.t 39)), none⟩,
    ⟨some 9, .h (.alloc [(.int .u8 0), (.int .u8 0), (.int .u8 0), (.int .u8 0), (.int .u8 0), (.int .u8 0), (.int .u8 0), (.int .u8 0), (.int .u8 0), (.int .u8 0), (.int .u8 0), (.int .u8 0), (.int .u8 0), (.int .u8 0), (.int .u8 0), (.int .u8 0), (.int .u8 0), (.int .u8 0), (.int .u8 0), (.int .u8 0), (.int .u8 0), (.int .u8 0), (.int .u8 0), (.int .u8 0), (.int .u8 0), (.int .u8 0), (.int .u8 0), (.int .u8 0), (.int .u8 0), (.int .u8 0), (.int .u8 0), (.int .u8 0), (.int .u8 0), (.int .u8 0), (.int .u8 0), (.int .u8 0), (.int .u8 0), (.int .u8 0), (.int .u8 0), (.int .u8 0), (.int .u8 0), (.int .u8 0), (.int .u8 0), (.int .u8 0), (.int .u8 0), (.int .u8 0), (.int .u8 0), (.int .u8 0), (.int .u8 0), (.int .u8 0), (.int .u8 0), (.int .u8 0), (.int .u8 0), (.int .u8 0), (.int .u8 0), (.int .u8 0), (.int .u8 0), (.int .u8 0), (.int .u8 0), (.int .u8 0), (.int .u8 0), (.int .u8 0), (.int .u8 0), (.int .u8 0)]), none⟩,
    ⟨some 8, .p (.mov (.t 38)), none⟩,
    ⟨none, .h (.store 64 (.t 9) (.t 40)), none⟩])
  (.seq (.draw 9 [] [⟨some 41, .p (.mov (.t 0)), none⟩,
    ⟨some 42, .p (.nilchk (.t 41)), none⟩,
    ⟨some 43, .p (.fieldA 0 (.t 42)), none⟩,
    ⟨some 44, .h (.load false 1 (.t 43)), none⟩,
    ⟨some 45, .p (.mov (.t 6)), none⟩,
    ⟨some 46, .p (.bin .mul (.t 45) (.c (.int .i64 6))), none⟩,
    ⟨some 47, .p (.mov (.t 8)), none⟩,
    ⟨some 48, .p (.bin .add (.t 46) (.t 47)), none⟩,
    ⟨some 49, .h (.load true 64 (.t 9)), none⟩,
    ⟨some 50, .call 37 [(.t 44), (.t 48), (.t 49)], none⟩,
    ⟨some 51, .p (.bin .neq (.t 50) (.c (.int .i64 0))), none⟩])
  (.cond (.t 51) (.seq (.reg [⟨some 4, .p (.mov (.c (.int .i64 0))), none⟩,
    ⟨some 5, .p (.mov (.c (.int .i64 12))), none⟩])
  .ret) .skip))))
  (.reg [⟨some 52, .p (.bin .add (.t 36) (.c (.int .i64 1))), none⟩,
    ⟨some 36, .p (.mov (.t 52)), none⟩])))))))
  (.seq (.seq (.reg [⟨some 53, .p (.mov (.t 0)), none⟩,
    ⟨some 54, .p (.nilchk (.t 53)), none⟩,
    ⟨some 55, .p (.fieldA 0 (.t 54)), none⟩,
    ⟨some 56, .h (.load false 1 (.t 55)), none⟩,
    ⟨some 57, .call 38 [(.t 56)], none⟩,
    ⟨some 58, .p (.bin .neq (.t 57) (.c (.int .i64 0))), none⟩])
  (.cond (.t 58) (.seq (.reg [⟨some 4, .p (.mov (.c (.int .i64 0))), none⟩,
    ⟨some 5, .p (.mov (.c (.int .i64 12))), none⟩])
  .ret) .skip))
  (.seq (.reg [⟨some 59, .p (.mov (.t 0)), none⟩,
    ⟨some 60, .p (.nilchk (.t 59)), none⟩,
    ⟨some 61, .p (.fieldA 1 (.t 60)), none⟩,
    ⟨some 62, .h (.load false 1 (.t 61)), none⟩,
    ⟨some 63, .p (.mov (.t 6)), none⟩,
    ⟨none, .m (.set (.c (.i .i64)) (.t 62) (.t 63) (.c (.bool true))), none⟩])
  (.seq (.reg [⟨some 64, .p (.mov (.t 6)), none⟩,
    ⟨some 4, .p (.mov (.t 64)), none⟩,
    ⟨some 5, .p (.mov (.c (.int .i64 0))), none⟩])
  .ret)))))))))
def rs24 : List AR := [.tmp 4, .tmp 5]
theorem ok24 : okF Tryd.prog 24 65 ac24 rs24 = true := by kernel_rfl
/-- (*simulacrum/disk.Disk).Rot -/
def ac25 : AC := (.seq (.reg [⟨some 4, .p (.mov (.c (.int .i64 0))), none⟩])
  (.seq (.reg [⟨some 6, .p (.mov (.t 0)), none⟩,
    ⟨some 7, .p (.mov (.t 1)), none⟩,
    ⟨some 8, .call 39 [(.t 6), (.t 7)], none⟩,
    ⟨some 5, .p (.mov (.t 8)), none⟩])
  (.seq (.seq (.reg [⟨some 9, .p (.mov (.t 5)), none⟩,
    ⟨some 10, .p (.bin .eql (.t 9) (.c (.int .i64 0))), none⟩])
  (.cond (.t 10) (.reg [⟨some 11, .p (.mov (.t 0)), none⟩,
    ⟨some 12, .p (.nilchk (.t 11)), none⟩,
    ⟨some 13, .p (.fieldA 0 (.t 12)), none⟩,
    ⟨some 14, .h (.load false 1 (.t 13)), none⟩,
    ⟨some 15, .p (.mov (.t 1)), none⟩,
    ⟨some 16, .v (.build [(.int .u8 0), (.int .u8 0), (.int .u8 0), (.int .u8 0), (.int .u8 0), (.int .u8 0), (.int .u8 0), (.int .u8 0), (.int .u8 0), (.int .u8 0), (.int .u8 0), (.int .u8 0), (.int .u8 0), (.int .u8 0), (.int .u8 0), (.int .u8 0), (.int .u8 0), (.int .u8 0), (.int .u8 0), (.int .u8 0), (.int .u8 0), (.int .u8 0), (.int .u8 0), (.int .u8 0), (.int .u8 0), (.int .u8 0), (.int .u8 0), (.int .u8 0), (.int .u8 0), (.int .u8 0), (.int .u8 0), (.int .u8 0), (.int .u8 0), (.int .u8 0), (.int .u8 0), (.int .u8 0), (.int .u8 0), (.int .u8 0), (.int .u8 0), (.int .u8 0), (.int .u8 0), (.int .u8 0), (.int .u8 0), (.int .u8 0), (.int .u8 0), (.int .u8 0), (.int .u8 0), (.int .u8 0), (.int .u8 0), (.int .u8 0), (.int .u8 0), (.int .u8 0), (.int .u8 0), (.int .u8 0), (.int .u8 0), (.int .u8 0), (.int .u8 0), (.int .u8 0), (.int .u8 0), (.int .u8 0), (.int .u8 0), (.int .u8 0), (.int .u8 0), (.int .u8 0), (.bool false)] [(64, 1, (.c (.bool true)))]), none⟩,
    ⟨some 17, .p (.idxA 65 none (.t 14) (.t 15)), none⟩,
    ⟨none, .h (.store 65 (.t 17) (.t 16)), none⟩]) .skip))
  (.seq (.reg [⟨some 18, .p (.mov (.t 5)), none⟩,
    ⟨some 4, .p (.mov (.t 18)), none⟩])
  .ret))))
def rs25 : List AR := [.tmp 4]
theorem ok25 : okF Tryd.prog 25 19 ac25 rs25 = true := by kernel_rfl
/-- (*simulacrum/balloon.Swap).Get -/
def ac27 : AC := (.seq (.reg [⟨some 4, .h (.alloc [(.int .u8 0), (.int .u8 0), (.int .u8 0), (.int .u8 0), (.int .u8 0), (.int .u8 0), (.int .u8 0), (.int .u8 0), (.int .u8 0), (.int .u8 0), (.int .u8 0), (.int .u8 0), (.int .u8 0), (.int .u8 0), (.int .u8 0), (.int .u8 0), (.int .u8 0), (.int .u8 0), (.int .u8 0), (.int .u8 0), (.int .u8 0), (.int .u8 0), (.int .u8 0), (.int .u8 0), (.int .u8 0), (.int .u8 0), (.int .u8 0), (.int .u8 0), (.int .u8 0), (.int .u8 0), (.int .u8 0), (.int .u8 0), (.int .u8 0), (.int .u8 0), (.int .u8 0), (.int .u8 0), (.int .u8 0), (.int .u8 0), (.int .u8 0), (.int .u8 0), (.int .u8 0), (.int .u8 0), (.int .u8 0), (.int .u8 0), (.int .u8 0), (.int .u8 0), (.int .u8 0), (.int .u8 0), (.int .u8 0), (.int .u8 0), (.int .u8 0), (.int .u8 0), (.int .u8 0), (.int .u8 0), (.int .u8 0), (.int .u8 0), (.int .u8 0), (.int .u8 0), (.int .u8 0), (.int .u8 0), (.int .u8 0), (.int .u8 0), (.int .u8 0), (.int .u8 0), (.int .u8 0), (.int .u8 0), (.int .u8 0), (.int .u8 0), (.int .u8 0), (.int .u8 0), (.int .u8 0), (.int .u8 0), (.int .u8 0), (.int .u8 0), (.int .u8 0), (.int .u8 0), (.int .u8 0), (.int .u8 0), (.int .u8 0), (.int .u8 0), (.int .u8 0), (.int .u8 0), (.int .u8 0), (.int .u8 0), (.int .u8 0), (.int .u8 0), (.int .u8 0), (.int .u8 0), (.int .u8 0), (.int .u8 0), (.int .u8 0), (.int .u8 0), (.int .u8 0), (.int .u8 0), (.int .u8 0), (.int .u8 0), (.int .u8 0), (.int .u8 0), (.int .u8 0), (.int .u8 0), (.int .u8 0), (.int .u8 0), (.int .u8 0), (.int .u8 0), (.int .u8 0), (.int .u8 0), (.int .u8 0), (.int .u8 0), (.int .u8 0), (.int .u8 0), (.int .u8 0), (.int .u8 0), (.int .u8 0), (.int .u8 0), (.int .u8 0), (.int .u8 0), (.int .u8 0), (.int .u8 0), (.int .u8 0), (.int .u8 0), (.int .u8 0), (.int .u8 0), (.int .u8 0), (.int .u8 0), (.int .u8 0), (.int .u8 0), (.int .u8 0), (.int .u8 0)]), none⟩,
    ⟨some 5, .p (.mov (.c (.int .i64 0))), none⟩])
  (.scope (.seq (.seq (.reg [⟨some 12, .p (.mov (.t 0)), none⟩,
    ⟨some 13, .p (.nilchk (.t 12)), none⟩,
    ⟨some 14, .p (.fieldA 1 (.t 13)), none⟩,
    ⟨some 15, .h (.load false 1 (.t 14)), none⟩,
    ⟨some 16, .p (.mov (.t 1)), none⟩,
    ⟨some 17, .m (.get false (.c (.i .i64)) (.bool false) (.t 15) (.t 16)), none⟩,
    ⟨some 18, .p (.un .not (.t 17)), none⟩])
  (.cond (.t 18) (.seq (.reg [⟨some 19, .v (.build [(.int .u8 0), (.int .u8 0), (.int .u8 0), (.int .u8 0), (.int .u8 0), (.int .u8 0), (.int .u8 0), (.int .u8 0), (.int .u8 0), (.int .u8 0), (.int .u8 0), (.int .u8 0), (.int .u8 0), (.int .u8 0), (.int .u8 0), (.int .u8 0), (.int .u8 0), (.int .u8 0), (.int .u8 0), (.int .u8 0), (.int .u8 0), (.int .u8 0), (.int .u8 0), (.int .u8 0), (.int .u8 0), (.int .u8 0), (.int .u8 0), (.int .u8 0), (.int .u8 0), (.int .u8 0), (.int .u8 0), (.int .u8 0), (.int .u8 0), (.int .u8 0), (.int .u8 0), (.int .u8 0), (.int .u8 0), (.int .u8 0), (.int .u8 0), (.int .u8 0), (.int .u8 0), (.int .u8 0), (.int .u8 0), (.int .u8 0), (.int .u8 0), (.int .u8 0), (.int .u8 0), (.int .u8 0), (.int .u8 0), (.int .u8 0), (.int .u8 0), (.int .u8 0), (.int .u8 0), (.int .u8 0), (.int .u8 0), (.int .u8 0), (.int .u8 0), (.int .u8 0), (.int .u8 0), (.int .u8 0), (.int .u8 0), (.int .u8 0), (.int .u8 0), (.int .u8 0), (.int .u8 0), (.int .u8 0), (.int .u8 0), (.int .u8 0), (.int .u8 0), (.int .u8 0), (.int .u8 0), (.int .u8 0), (.int .u8 0), (.int .u8 0), (.int .u8 0), (.int .u8 0), (.int .u8 0), (.int .u8 0), (.int .u8 0), (.int .u8 0), (.int .u8 0), (.int .u8 0), (.int .u8 0), (.int .u8 0), (.int .u8 0), (.int .u8 0), (.int .u8 0), (.int .u8 0), (.int .u8 0), (.int .u8 0), (.int .u8 0), (.int .u8 0), (.int .u8 0), (.int .u8 0), (.int .u8 0), (.int .u8 0), (.int .u8 0), (.int .u8 0), (.int .u8 0), (.int .u8 0), (.int .u8 0), (.int .u8 0), (.int .u8 0), (.int .u8 0), (.int .u8 0), (.int .u8 0), (.int .u8 0), (.int .u8 0), (.int .u8 0), (.int .u8 0), (.int .u8 0), (.int .u8 0), (.int .u8 0), (.int .u8 0), (.int .u8 0), (.int .u8 0), (.int .u8 0), (.int .u8 0), (.int .u8 0), (.int .u8 0), (.int .u8 0), (.int .u8 0), (.int .u8 0), (.int .u8 0), (.int .u8 0), (.int .u8 0), (.int .u8 0), (.int .u8 0)] []), none⟩,
    ⟨none, .h (.store 128 (.t 4) (.t 19)), none⟩,
    ⟨some 5, .p (.mov (.c (.int .i64 5))), none⟩])
  .ret) .skip))
  (.seq .skip
  (.seq (.seq (.reg [⟨some 20, .p (.mov (.c (.int .i64 0))), none⟩])
  (.block 0 (.loop (.seq (.reg [⟨some 21, .p (.bin .lss (.t 20) (.c (.int .i64 2))), none⟩])
  (.seq (.cond (.t 21) .skip (.exit 0))
  (.seq (.block 1 (.seq (.reg [⟨some 22, .p (.mov (.t 20)), none⟩,
    ⟨some 6, .p (.mov (.t 22)), none⟩])
  (.seq (.reg [⟨some 7, .h (.alloc [(.int .u8 0), (.int .u8 0), (.int .u8 0), (.int .u8 0), (.int .u8 0), (.int .u8 0), (.int .u8 0), (.int .u8 0), (.int .u8 0), (.int .u8 0), (.int .u8 0), (.int .u8 0), (.int .u8 0), (.int .u8 0), (.int .u8 0), (.int .u8 0), (.int .u8 0), (.int .u8 0), (.int .u8 0), (.int .u8 0), (.int .u8 0), (.int .u8 0), (.int .u8 0), (.int .u8 0), (.int .u8 0), (.int .u8 0), (.int .u8 0), (.int .u8 0), (.int .u8 0), (.int .u8 0), (.int .u8 0), (.int .u8 0), (.int .u8 0), (.int .u8 0), (.int .u8 0), (.int .u8 0), (.int .u8 0), (.int .u8 0), (.int .u8 0), (.int .u8 0), (.int .u8 0), (.int .u8 0), (.int .u8 0), (.int .u8 0), (.int .u8 0), (.int .u8 0), (.int .u8 0), (.int .u8 0), (.int .u8 0), (.int .u8 0), (.int .u8 0), (.int .u8 0), (.int .u8 0), (.int .u8 0), (.int .u8 0), (.int .u8 0), (.int .u8 0), (.int .u8 0), (.int .u8 0), (.int .u8 0), (.int .u8 0), (.int .u8 0), (.int .u8 0), (.int .u8 0), (.int .u8 0), (.int .u8 0), (.int .u8 0), (.int .u8 0), (.int .u8 0), (.int .u8 0), (.int .u8 0), (.int .u8 0), (.int .u8 0), (.int .u8 0), (.int .u8 0), (.int .u8 0), (.int .u8 0), (.int .u8 0), (.int .u8 0), (.int .u8 0), (.int .u8 0), (.int .u8 0), (.int .u8 0), (.int .u8 0), (.int .u8 0), (.int .u8 0), (.int .u8 0), (.int .u8 0), (.int .u8 0), (.int .u8 0), (.int .u8 0), (.int .u8 0), (.int .u8 0), (.int .u8 0), (.int .u8 0), (.int .u8 0), (.int .u8 0), (.int .u8 0), (.int .u8 0), (.int .u8 0), (.int .u8 0), (.int .u8 0), (.int .u8 0), (.int .u8 0), (.int .u8 0), (.int .u8 0), (.int .u8 0), (.int .u8 0), (.int .u8 0), (.int .u8 0), (.int .u8 0), (.int .u8 0), (.int .u8 0), (.int .u8 0), (.int .u8 0), (.int .u8 0), (.int .u8 0), (.int .u8 0), (.int .u8 0), (.int .u8 0), (.int .u8 0), (.int .u8 0), (.int .u8 0), (.int .u8 0), (.int .u8 0), (.int .u8 0), (.int .u8 0), (.int .u8 0), (.int .u8 0), (.int .u8 0), (.int .u8 0), (.int .u8 0), (.int .u8 0), (.int .u8 0), (.int .u8 0), (.int .u8 0), (.int .u8 0), (.int .u8 0), (.int .u8 0), (.int .u8 0), (.int .u8 0), (.int .u8 0), (.int .u8 0), (.int .u8 0), (.int .u8 0), (.int .u8 0), (.int .u8 0), (.int .u8 0), (.int .u8 0), (.int .u8 0), (.int .u8 0), (.int .u8 0), (.int .u8 0), (.int .u8 0), (.int .u8 0), (.int .u8 0), (.int .u8 0), (.int .u8 0), (.int .u8 0), (.int .u8 0), (.int .u8 0), (.int .u8 0), (.int .u8 0), (.int .u8 0), (.int .u8 0), (.int .u8 0), (.int .u8 0), (.int .u8 0), (.int .u8 0), (.int .u8 0), (.int .u8 0), (.int .u8 0), (.int .u8 0), (.int .u8 0), (.int .u8 0), (.int .u8 0), (.int .u8 0), (.int .u8 0), (.int .u8 0), (.int .u8 0), (.int .u8 0), (.int .u8 0), (.int .u8 0), (.int .u8 0), (.int .u8 0), (.int .u8 0), (.int .u8 0), (.int .u8 0), (.int .u8 0), (.int .u8 0), (.int .u8 0), (.int .u8 0)]), none⟩])
  (.seq (.seq (.reg [⟨some 23, .p (.mov (.c (.int .i64 0))), none⟩])
  (.block 2 (.loop (.seq (.reg [⟨some 24, .p (.bin .lss (.t 23) (.c (.int .i64 3))), none⟩])
  (.seq (.cond (.t 24) .skip (.exit 2))
  (.seq (.block 3 (.seq (.reg [⟨some 25, .p (.mov (.t 23)), none⟩,
    ⟨some 8, .p (.mov (.t 25)), none⟩])
  (.seq (.reg [⟨some 27, .p (.mov (.t 0)), none⟩,
    ⟨some 28, .p (.nilchk (.t 27)), none⟩,
    ⟨some 29, .p (.fieldA 0 (.t 28)), none⟩,
    ⟨some 30, .h (.load false 1 (.t 29)), none⟩,
    ⟨some 31, .p (.mov (.t 1)), none⟩,
    ⟨some 32, .p (.bin .mul (.t 31) (.c (.int .i64 6))), none⟩,
    ⟨some 33, .p (.mov (.t 6)), none⟩,
    ⟨some 34, .p (.bin .mul (.c (.int .i64 3)) (.t 33)), none⟩,
    ⟨some 35, .p (.bin .add (.t 32) (.t 34)), none⟩,
    ⟨some 36, .p (.mov (.t 8)), none⟩,
    ⟨some 37, .p (.bin .add (.t 35) (.t 36)), none⟩,
    ⟨some 38, .call 40 [(.t 30), (.t 37)], none⟩,
    ⟨some 26, .p (.mov (.t 38)), none⟩,
    ⟨some 39, .p (.extract 0 (.t 26)), none⟩,
    ⟨some 40, .p (.extract 1 (.t 26)), none⟩,
    ⟨some 9, .h (.alloc [(.int .u8 0), (.int .u8 0), (.int .u8 0), (.int .u8 0), (.int .u8 0), (.int .u8 0), (.int .u8 0), (.int .u8 0), (.int .u8 0), (.int .u8 0), (.int .u8 0), (.int .u8 0), (.int .u8 0), (.int .u8 0), (.int .u8 0), (.int .u8 0), (.int .u8 0), (.int .u8 0), (.int .u8 0), (.int .u8 0), (.int .u8 0), (.int .u8 0), (.int .u8 0), (.int .u8 0), (.int .u8 0), (.int .u8 0), (.int .u8 0), (.int .u8 0), (.int .u8 0), (.int .u8 0), (.int .u8 0), (.int .u8 0), (.int .u8 0), (.int .u8 0), (.int .u8 0), (.int .u8 0), (.int .u8 0), (.int .u8 0), (.int .u8 0), (.int .u8 0), (.int .u8 0), (.int .u8 0), (.int .u8 0), (.int .u8 0), (.int .u8 0), (.int .u8 0), (.int .u8 0), (.int .u8 0), (.int .u8 0), (.int .u8 0), (.int .u8 0), (.int .u8 0), (.int .u8 0), (.int .u8 0), (.int .u8 0), (.int .u8 0), (.int .u8 0), (.int .u8 0), (.int .u8 0), (.int .u8 0), (.int .u8 0), (.int .u8 0), (.int .u8 0), (.int .u8 0)]), none⟩,
    ⟨none, .h (.store 64 (.t 9) (.t 39)), none⟩,
    ⟨some 10, .p (.mov (.t 40)), none⟩])
  (.seq (.reg [⟨some 41, .p (.mov (.t 10)), none⟩])
  (.block 4 (.seq (.reg [⟨some 43, .p (.bin .eql (.t 41) (.c (.int .i64 0))), none⟩,
    ⟨some 42, .p (.mov (.t 43)), none⟩])
  (.cond (.t 42) (.reg [⟨some 44, .p (.mov (.t 8)), none⟩,
    ⟨some 45, .h (.load true 64 (.t 9)), none⟩,
    ⟨some 46, .p (.idxA 64 (some 3) (.t 7) (.t 44)), none⟩,
    ⟨none, .h (.store 64 (.t 46) (.t 45)), none⟩]) (.seq (.reg [⟨some 48, .p (.bin .eql (.t 41) (.c (.int .i64 12))), none⟩,
    ⟨some 47, .p (.mov (.t 48)), none⟩])
  (.cond (.t 47) (.seq (.reg [⟨some 49, .v (.build [(.int .u8 0), (.int .u8 0), (.int .u8 0), (.int .u8 0), (.int .u8 0), (.int .u8 0), (.int .u8 0), (.int .u8 0), (.int .u8 0), (.int .u8 0), (.int .u8 0), (.int .u8 0), (.int .u8 0), (.int .u8 0), (.int .u8 0), (.int .u8 0), (.int .u8 0), (.int .u8 0), (.int .u8 0), (.int .u8 0), (.int .u8 0), (.int .u8 0), (.int .u8 0), (.int .u8 0), (.int .u8 0), (.int .u8 0), (.int .u8 0), (.int .u8 0), (.int .u8 0), (.int .u8 0), (.int .u8 0), (.int .u8 0), (.int .u8 0), (.int .u8 0), (.int .u8 0), (.int .u8 0), (.int .u8 0), (.int .u8 0), (.int .u8 0), (.int .u8 0), (.int .u8 0), (.int .u8 0), (.int .u8 0), (.int .u8 0), (.int .u8 0), (.int .u8 0), (.int .u8 0), (.int .u8 0), (.int .u8 0), (.int .u8 0), (.int .u8 0), (.int .u8 0), (.int .u8 0), (.int .u8 0), (.int .u8 0), (.int .u8 0), (.int .u8 0), (.int .u8 0), (.int .u8 0), (.int .u8 0), (.int .u8 0), (.int .u8 0), (.int .u8 0), (.int .u8 0), (.int .u8 0), (.int .u8 0), (.int .u8 0), (.int .u8 0), (.int .u8 0), (.int .u8 0), (.int .u8 0), (.int .u8 0), (.int .u8 0), (.int .u8 0), (.int .u8 0), (.int .u8 0), (.int .u8 0), (.int .u8 0), (.int .u8 0), (.int .u8 0), (.int .u8 0), (.int .u8 0), (.int .u8 0), (.int .u8 0), (.int .u8 0), (.int .u8 0), (.int .u8 0), (.int .u8 0), (.int .u8 0), (.int .u8 0), (.int .u8 0), (.int .u8 0), (.int .u8 0), (.int .u8 0), (.int .u8 0), (.int .u8 0), (.int .u8 0), (.int .u8 0), (.int .u8 0), (.int .u8 0), (.int .u8 0), (.int .u8 0), (.int .u8 0), (.int .u8 0), (.int .u8 0), (.int .u8 0), (.int .u8 0), (.int .u8 0), (.int .u8 0), (.int .u8 0), (.int .u8 0), (.int .u8 0), (.int .u8 0), (.int .u8 0), (.int .u8 0), (.int .u8 0), (.int .u8 0), (.int .u8 0), (.int .u8 0), (.int .u8 0), (.int .u8 0), (.int .u8 0), (.int .u8 0), (.int .u8 0), (.int .u8 0), (.int .u8 0), (.int .u8 0), (.int .u8 0)] []), none⟩,
    ⟨some 50, .p (.mov (.t 10)), none⟩,
    ⟨none, .h (.store 128 (.t 4) (.t 49)), none⟩,
    ⟨some 5, .p (.mov (.t 50)), none⟩])
  .ret) (.exit 1))))))))))
  (.reg [⟨some 51, .p (.bin .add (.t 23) (.c (.int .i64 1))), none⟩,
    ⟨some 23, .p (.mov (.t 51)), none⟩])))))))
  (.seq (.draw 9 [(1, 4), (3, 4), (4, 6), (7, 8), (6, 8), (4, 8), (1, 8), (3, 8)] [⟨some 52, .p (.idxA 64 (some 3) (.t 7) (.c (.int .i64 0))), none⟩,
    ⟨some 53, .d (.asub 1 64 (.t 52) none none), none⟩,
    ⟨some 54, .p (.idxA 64 (some 3) (.t 7) (.c (.int .i64 1))), none⟩,
    ⟨some 55, .d (.asub 1 64 (.t 54) none none), none⟩,
    ⟨some 56, .l (.appendF 1 1 (.t 53) (.t 55)), none⟩,
    ⟨some 57, .v (.s2a 128 (.t 56)), none⟩,
    ⟨some 58, .h (.load true 128 (.t 57)), none⟩,
    ⟨some 11, .h (.alloc [(.int .u8 0), (.int .u8 0), (.int .u8 0), (.int .u8 0), (.int .u8 0), (.int .u8 0), (.int .u8 0), (.int .u8 0), (.int .u8 0), (.int .u8 0), (.int .u8 0), (.int .u8 0), (.int .u8 0), (.int .u8 0), (.int .u8 0), (.int .u8 0), (.int .u8 0), (.int .u8 0), (.int .u8 0), (.int .u8 0), (.int .u8 0), (.int .u8 0), (.int .u8 0), (.int .u8 0), (.int .u8 0), (.int .u8 0), (.int .u8 0), (.int .u8 0), (.int .u8 0), (.int .u8 0), (.int .u8 0), (.int .u8 0), (.int .u8 0), (.int .u8 0), (.int .u8 0), (.int .u8 0), (.int .u8 0), (.int .u8 0), (.int .u8 0), (.int .u8 0), (.int .u8 0), (.int .u8 0), (.int .u8 0), (.int .u8 0), (.int .u8 0), (.int .u8 0), (.int .u8 0), (.int .u8 0), (.int .u8 0), (.int .u8 0), (.int .u8 0), (.int .u8 0), (.int .u8 0), (.int .u8 0), (.int .u8 0), (.int .u8 0), (.int .u8 0), (.int .u8 0), (.int .u8 0), (.int .u8 0), (.int .u8 0), (.int .u8 0), (.int .u8 0), (.int .u8 0), (.int .u8 0), (.int .u8 0), (.int .u8 0), (.int .u8 0), (.int .u8 0), (.int .u8 0), (.int .u8 0), (.int .u8 0), (.int .u8 0), (.int .u8 0), (.int .u8 0), (.int .u8 0), (.int .u8 0), (.int .u8 0), (.int .u8 0), (.int .u8 0), (.int .u8 0), (.int .u8 0), (.int .u8 0), (.int .u8 0), (.int .u8 0), (.int .u8 0), (.int .u8 0), (.int .u8 0), (.int .u8 0), (.int .u8 0), (.int .u8 0), (.int .u8 0), (.int .u8 0), (.int .u8 0), (.int .u8 0), (.int .u8 0), (.int .u8 0), (.int .u8 0), (.int .u8 0), (.int .u8 0), (.int .u8 0), (.int .u8 0), (.int .u8 0), (.int .u8 0), (.int .u8 0), (.int .u8 0), (.int .u8 0), (.int .u8 0), (.int .u8 0), (.int .u8 0), (.int .u8 0), (.int .u8 0), (.int .u8 0), (.int .u8 0), (.int .u8 0), (.int .u8 0), (.int .u8 0), (.int .u8 0), (.int .u8 0), (.int .u8 0), (.int .u8 0), (.int .u8 0), (.int .u8 0), (.int .u8 0), (.int .u8 0), (.int .u8 0), (.int .u8 0), (.int .u8 0)]), none⟩,
    ⟨none, .h (.store 128 (.t 11) (.t 58)), none⟩])
  (.seq (.draw 6 [] [⟨some 59, .p (.mov (.t 1)), none⟩,
    ⟨some 60, .h (.load true 128 (.t 11)), none⟩,
    ⟨some 61, .call 36 [(.t 59), (.t 60)], none⟩,
    ⟨some 62, .p (.idxA 64 (some 3) (.t 7) (.c (.int .i64 2))), none⟩,
    ⟨some 63, .h (.load true 64 (.t 62)), none⟩,
    ⟨some 64, .v (.eqa false [(.i .u8), (.i .u8), (.i .u8), (.i .u8), (.i .u8), (.i .u8), (.i .u8), (.i .u8), (.i .u8), (.i .u8), (.i .u8), (.i .u8), (.i .u8), (.i .u8), (.i .u8), (.i .u8), (.i .u8), (.i .u8), (.i .u8), (.i .u8), (.i .u8), (.i .u8), (.i .u8), (.i .u8), (.i .u8), (.i .u8), (.i .u8), (.i .u8), (.i .u8), (.i .u8), (.i .u8), (.i .u8), (.i .u8), (.i .u8), (.i .u8), (.i .u8), (.i .u8), (.i .u8), (.i .u8), (.i .u8), (.i .u8), (.i .u8), (.i .u8), (.i .u8), (.i .u8), (.i .u8), (.i .u8), (.i .u8), (.i .u8), (.i .u8), (.i .u8), (.i .u8), (.i .u8), (.i .u8), (.i .u8), (.i .u8), (.i .u8), (.i .u8), (.i .u8), (.i .u8), (.i .u8), (.i .u8), (.i .u8), (.i .u8)] (.t 61) (.t 63)), none⟩])
  (.cond (.t 64) (.seq (.reg [⟨some 65, .h (.load true 128 (.t 11)), none⟩,
    ⟨none, .h (.store 128 (.t 4) (.t 65)), none⟩,
    ⟨some 5, .p (.mov (.c (.int .i64 0))), none⟩])
  .ret) .skip)))))))
  (.reg [⟨some 66, .p (.bin .add (.t 20) (.c (.int .i64 1))), none⟩,
    ⟨some 20, .p (.mov (.t 66)), none⟩])))))))
  (.seq (.reg [⟨some 67, .v (.build [(.int .u8 0), (.int .u8 0), (.int .u8 0), (.int .u8 0), (.int .u8 0), (.int .u8 0), (.int .u8 0), (.int .u8 0), (.int .u8 0), (.int .u8 0), (.int .u8 0), (.int .u8 0), (.int .u8 0), (.int .u8 0), (.int .u8 0), (.int .u8 0), (.int .u8 0), (.int .u8 0), (.int .u8 0), (.int .u8 0), (.int .u8 0), (.int .u8 0), (.int .u8 0), (.int .u8 0), (.int .u8 0), (.int .u8 0), (.int .u8 0), (.int .u8 0), (.int .u8 0), (.int .u8 0), (.int .u8 0), (.int .u8 0), (.int .u8 0), (.int .u8 0), (.int .u8 0), (.int .u8 0), (.int .u8 0), (.int .u8 0), (.int .u8 0), (.int .u8 0), (.int .u8 0), (.int .u8 0), (.int .u8 0), (.int .u8 0), (.int .u8 0), (.int .u8 0), (.int .u8 0), (.int .u8 0), (.int .u8 0), (.int .u8 0), (.int .u8 0), (.int .u8 0), (.int .u8 0), (.int .u8 0), (.int .u8 0), (.int .u8 0), (.int .u8 0), (.int .u8 0), (.int .u8 0), (.int .u8 0), (.int .u8 0), (.int .u8 0), (.int .u8 0), (.int .u8 0), (.int .u8 0), (.int .u8 0), (.int .u8 0), (.int .u8 0), (.int .u8 0), (.int .u8 0), (.int .u8 0), (.int .u8 0), (.int .u8 0), (.int .u8 0), (.int .u8 0), (.int .u8 0), (.int .u8 0), (.int .u8 0), (.int .u8 0), (.int .u8 0), (.int .u8 0), (.int .u8 0), (.int .u8 0), (.int .u8 0), (.int .u8 0), (.int .u8 0), (.int .u8 0), (.int .u8 0), (.int .u8 0), (.int .u8 0), (.int .u8 0), (.int .u8 0), (.int .u8 0), (.int .u8 0), (.int .u8 0), (.int .u8 0), (.int .u8 0), (.int .u8 0), (.int .u8 0), (.int .u8 0), (.int .u8 0), (.int .u8 0), (.int .u8 0), (.int .u8 0), (.int .u8 0), (.int .u8 0), (.int .u8 0), (.int .u8 0), (.int .u8 0), (.int .u8 0), (.int .u8 0), (.int .u8 0), (.int .u8 0), (.int .u8 0), (.int .u8 0), (.int .u8 0), (.int .u8 0), (.int .u8 0), (.int .u8 0), (.int .u8 0), (.int .u8 0), (.int .u8 0), (.int .u8 0), (.int .u8 0), (.int .u8 0), (.int .u8 0), (.int .u8 0), (.int .u8 0)] []), none⟩,
    ⟨none, .h (.store 128 (.t 4) (.t 67)), none⟩,
    ⟨some 5, .p (.mov (.c (.int .i64 271))), none⟩])
  .ret))))))
def rs27 : List AR := [.cell 4 true 128, .tmp 5]
theorem ok27 : okF Tryd.prog 27 68 ac27 rs27 = true := by kernel_rfl
/-- (*simulacrum/balloon.Swap).Room -/
def ac30 : AC := (.seq (.reg [⟨some 2, .p (.mov (.c (.int .i64 0))), none⟩])
  (.seq (.reg [⟨some 3, .p (.mov (.t 0)), none⟩,
    ⟨some 4, .p (.nilchk (.t 3)), none⟩,
    ⟨some 5, .p (.fieldA 0 (.t 4)), none⟩,
    ⟨some 6, .h (.load false 1 (.t 5)), none⟩,
    ⟨some 7, .call 42 [(.t 6)], none⟩,
    ⟨some 8, .p (.bin .quo (.t 7) (.c (.int .i64 6))), none⟩,
    ⟨some 2, .p (.mov (.t 8)), none⟩])
  .ret))
def rs30 : List AR := [.tmp 2]
theorem ok30 : okF Tryd.prog 30 9 ac30 rs30 = true := by kernel_rfl
/-- slices.Repeat[[]simulacrum/api.Place,simulacrum/api.Place] -/
def ac31 : AC := (.seq (.reg [⟨some 4, .p (.mov (.c .nils)), none⟩])
  (.seq (.seq (.reg [⟨some 9, .p (.mov (.t 1)), none⟩,
    ⟨some 10, .p (.bin .lss (.t 9) (.c (.int .i64 0))), none⟩])
  (.cond (.t 10) (.reg [⟨some 11, .p .other, none⟩,
    ⟨none, .p .panic, none⟩]) .skip))
  (.seq (.reg [⟨some 13, .p (.mov (.t 0)), none⟩,
    ⟨some 14, .p (.len false (.t 13)), none⟩,
    ⟨some 15, .p (.convw .u64 (.t 14)), none⟩,
    ⟨some 16, .p (.mov (.t 1)), none⟩,
    ⟨some 17, .p (.convw .u64 (.t 16)), none⟩,
    ⟨some 18, .call 43 [(.t 15), (.t 17)], none⟩,
    ⟨some 12, .p (.mov (.t 18)), none⟩,
    ⟨some 19, .p (.extract 0 (.t 12)), none⟩,
    ⟨some 20, .p (.extract 1 (.t 12)), none⟩,
    ⟨some 5, .p (.mov (.t 19)), none⟩,
    ⟨some 6, .p (.mov (.t 20)), none⟩])
  (.seq (.seq (.reg [⟨some 21, .p (.mov (.t 5)), none⟩,
    ⟨some 22, .p (.binw .gtr (.t 21) (.c (.int .u64 0))), none⟩,
    ⟨some 23, .p (.mov (.t 22)), none⟩,
    ⟨some 24, .p (.mov (.t 6)), (some (23, false))⟩,
    ⟨some 25, .p (.binw .gtr (.t 24) (.c (.int .u64 9223372036854775807))), (some (23, false))⟩,
    ⟨some 26, .p (.pick (.t 23) (.c (.bool true)) (.t 25)), none⟩])
  (.cond (.t 26) (.reg [⟨some 27, .p .other, none⟩,
    ⟨none, .p .panic, none⟩]) .skip))
  (.seq (.reg [⟨some 28, .p (.mov (.t 6)), none⟩,
    ⟨some 29, .p (.convw .i64 (.t 28)), none⟩,
    ⟨some 30, .l (.make 2 16 [(.int .i64 0), (.int .i64 0)] (.t 29)), none⟩,
    ⟨some 7, .p (.mov (.t 30)), none⟩])
  (.seq (.reg [⟨some 31, .p (.mov (.t 7)), none⟩,
    ⟨some 32, .p (.mov (.t 0)), none⟩,
    ⟨some 33, .m (.copy 2 (.t 31) (.t 32)), none⟩,
    ⟨some 8, .p (.mov (.t 33)), none⟩])
  (.seq (.block 0 (.loop (.seq (.seq (.reg [⟨some 34, .p (.mov (.t 8)), none⟩,
    ⟨some 35, .p (.mov (.t 7)), none⟩,
    ⟨some 36, .p (.len false (.t 35)), none⟩,
    ⟨some 37, .p (.bin .lss (.t 34) (.t 36)), none⟩])
  (.cond (.t 37) .skip (.exit 0)))
  (.block 1 (.draw 10 [] [⟨some 38, .p (.mov (.t 8)), none⟩,
    ⟨some 39, .p (.mov (.t 7)), none⟩,
    ⟨some 40, .p (.mov (.t 8)), none⟩,
    ⟨some 41, .v (.sub 2 (.t 39) (some (.t 40)) none none), none⟩,
    ⟨some 42, .p (.mov (.t 7)), none⟩,
    ⟨some 43, .p (.mov (.t 8)), none⟩,
    ⟨some 44, .v (.sub 2 (.t 42) none (some (.t 43)) none), none⟩,
    ⟨some 45, .m (.copy 2 (.t 41) (.t 44)), none⟩,
    ⟨some 46, .p (.bin .add (.t 38) (.t 45)), none⟩,
    ⟨some 8, .p (.mov (.t 46)), none⟩])))))
  (.seq (.reg [⟨some 47, .p (.mov (.t 7)), none⟩,
    ⟨some 4, .p (.mov (.t 47)), none⟩])
  .ret))))))))
def rs31 : List AR := [.tmp 4]
theorem ok31 : okF Tryd.prog 31 48 ac31 rs31 = true := by kernel_rfl
/-- slices.Contains[[]simulacrum/api.Place,simulacrum/api.Place] -/
def ac33 : AC := (.seq (.reg [⟨some 3, .h (.box (.t 1)), none⟩,
    ⟨some 4, .p (.mov (.c (.bool false))), none⟩])
  (.seq (.reg [⟨some 5, .p (.mov (.t 0)), none⟩,
    ⟨some 6, .h (.load true 2 (.t 3)), none⟩,
    ⟨some 7, .call 44 [(.t 5), (.t 6)], none⟩,
    ⟨some 8, .p (.bin .geq (.t 7) (.c (.int .i64 0))), none⟩,
    ⟨some 4, .p (.mov (.t 8)), none⟩])
  .ret))
def rs33 : List AR := [.tmp 4]
theorem ok33 : okF Tryd.prog 33 9 ac33 rs33 = true := by kernel_rfl
/-- slices.Clone[[]simulacrum/api.Place,simulacrum/api.Place] -/
def ac34 : AC := (.seq (.reg [⟨some 2, .p (.mov (.c .nils)), none⟩])
  (.seq (.seq (.reg [⟨some 3, .p (.mov (.t 0)), none⟩,
    ⟨some 4, .v (.isnil false false (.t 3) (.c .nils)), none⟩])
  (.cond (.t 4) (.seq (.reg [⟨some 2, .p (.mov (.c .nils)), none⟩])
  .ret) .skip))
  (.seq (.reg [⟨some 5, .l (.bslice 2 0 [(.int .i64 0), (.int .i64 0)] []), none⟩,
    ⟨some 6, .p (.mov (.t 0)), none⟩,
    ⟨some 7, .l (.append 2 16 (.t 5) (.t 6)), none⟩,
    ⟨some 2, .p (.mov (.t 7)), none⟩])
  .ret)))
def rs34 : List AR := [.tmp 2]
theorem ok34 : okF Tryd.prog 34 8 ac34 rs34 = true := by kernel_rfl
/-- simulacrum/balloon.seal -/
def ac36 : AC := (.seq (.reg [⟨some 3, .h (.box (.t 1)), none⟩,
    ⟨some 4, .h (.alloc [(.int .u8 0), (.int .u8 0), (.int .u8 0), (.int .u8 0), (.int .u8 0), (.int .u8 0), (.int .u8 0), (.int .u8 0), (.int .u8 0), (.int .u8 0), (.int .u8 0), (.int .u8 0), (.int .u8 0), (.int .u8 0), (.int .u8 0), (.int .u8 0), (.int .u8 0), (.int .u8 0), (.int .u8 0), (.int .u8 0), (.int .u8 0), (.int .u8 0), (.int .u8 0), (.int .u8 0), (.int .u8 0), (.int .u8 0), (.int .u8 0), (.int .u8 0), (.int .u8 0), (.int .u8 0), (.int .u8 0), (.int .u8 0), (.int .u8 0), (.int .u8 0), (.int .u8 0), (.int .u8 0), (.int .u8 0), (.int .u8 0), (.int .u8 0), (.int .u8 0), (.int .u8 0), (.int .u8 0), (.int .u8 0), (.int .u8 0), (.int .u8 0), (.int .u8 0), (.int .u8 0), (.int .u8 0), (.int .u8 0), (.int .u8 0), (.int .u8 0), (.int .u8 0), (.int .u8 0), (.int .u8 0), (.int .u8 0), (.int .u8 0), (.int .u8 0), (.int .u8 0), (.int .u8 0), (.int .u8 0), (.int .u8 0), (.int .u8 0), (.int .u8 0), (.int .u8 0)]), none⟩])
  (.seq (.reg [⟨some 9, .l (.make 1 1 [(.int .u8 0)] (.c (.int .i64 8))), none⟩,
    ⟨some 5, .p (.mov (.t 9)), none⟩])
  (.seq (.seq (.reg [⟨some 10, .p (.mov (.t 5)), none⟩,
    ⟨some 11, .p (.len false (.t 10)), none⟩,
    ⟨some 12, .p (.mov (.c (.int .i64 0))), none⟩])
  (.block 0 (.loop (.seq (.reg [⟨some 13, .p (.bin .lss (.t 12) (.t 11)), none⟩])
  (.seq (.cond (.t 13) .skip (.exit 0))
  (.seq (.block 1 (.seq (.reg [⟨some 14, .p (.mov (.t 12)), none⟩,
    ⟨some 6, .p (.mov (.t 14)), none⟩])
  (.reg [⟨some 15, .p (.mov (.t 5)), none⟩,
    ⟨some 16, .p (.mov (.t 6)), none⟩,
    ⟨some 17, .p (.mov (.t 0)), none⟩,
    ⟨some 18, .p (.mov (.t 6)), none⟩,
    ⟨some 19, .p (.bin .mul (.c (.int .i64 8)) (.t 18)), none⟩,
    ⟨some 20, .p (.binw .shr (.t 17) (.t 19)), none⟩,
    ⟨some 21, .p (.convw .u8 (.t 20)), none⟩,
    ⟨some 22, .p (.idxA 1 none (.t 15) (.t 16)), none⟩,
    ⟨none, .h (.store 1 (.t 22) (.t 21)), none⟩])))
  (.reg [⟨some 23, .p (.bin .add (.t 12) (.c (.int .i64 1))), none⟩,
    ⟨some 12, .p (.mov (.t 23)), none⟩])))))))
  (.seq (.draw 8 [(2, 4), (4, 5), (6, 7), (5, 7), (2, 7), (4, 7)] [⟨some 24, .p (.mov (.t 5)), none⟩,
    ⟨some 25, .d (.sl2s (.t 24)), none⟩,
    ⟨some 26, .d (.asub 1 128 (.t 3) none none), none⟩,
    ⟨some 27, .d (.sl2s (.t 26)), none⟩,
    ⟨some 28, .d (.bslice 1 2 [(.str .empty)] [(0, (.t 25)), (1, (.t 27))]), none⟩,
    ⟨some 29, .call 45 [(.c (.int .i64 27)), (.t 28)], none⟩,
    ⟨some 7, .h (.alloc [(.int .u8 0), (.int .u8 0), (.int .u8 0), (.int .u8 0), (.int .u8 0), (.int .u8 0), (.int .u8 0), (.int .u8 0), (.int .u8 0), (.int .u8 0), (.int .u8 0), (.int .u8 0), (.int .u8 0), (.int .u8 0), (.int .u8 0), (.int .u8 0)]), none⟩,
    ⟨none, .h (.store 16 (.t 7) (.t 29)), none⟩])
  (.seq (.reg [⟨some 8, .h (.alloc [(.int .u8 0), (.int .u8 0), (.int .u8 0), (.int .u8 0), (.int .u8 0), (.int .u8 0), (.int .u8 0), (.int .u8 0), (.int .u8 0), (.int .u8 0), (.int .u8 0), (.int .u8 0), (.int .u8 0), (.int .u8 0), (.int .u8 0), (.int .u8 0), (.int .u8 0), (.int .u8 0), (.int .u8 0), (.int .u8 0), (.int .u8 0), (.int .u8 0), (.int .u8 0), (.int .u8 0), (.int .u8 0), (.int .u8 0), (.int .u8 0), (.int .u8 0), (.int .u8 0), (.int .u8 0), (.int .u8 0), (.int .u8 0), (.int .u8 0), (.int .u8 0), (.int .u8 0), (.int .u8 0), (.int .u8 0), (.int .u8 0), (.int .u8 0), (.int .u8 0), (.int .u8 0), (.int .u8 0), (.int .u8 0), (.int .u8 0), (.int .u8 0), (.int .u8 0), (.int .u8 0), (.int .u8 0), (.int .u8 0), (.int .u8 0), (.int .u8 0), (.int .u8 0), (.int .u8 0), (.int .u8 0), (.int .u8 0), (.int .u8 0), (.int .u8 0), (.int .u8 0), (.int .u8 0), (.int .u8 0), (.int .u8 0), (.int .u8 0), (.int .u8 0), (.int .u8 0)]), none⟩])
  (.seq (.draw 3 [(0, 2), (1, 2)] [⟨some 30, .d (.asub 1 64 (.t 8) none none), none⟩,
    ⟨some 31, .d (.asub 1 16 (.t 7) none none), none⟩,
    ⟨some 32, .m (.copy 1 (.t 30) (.t 31)), none⟩])
  (.seq (.reg [⟨some 33, .h (.load true 64 (.t 8)), none⟩,
    ⟨none, .h (.store 64 (.t 4) (.t 33)), none⟩])
  .ret)))))))
def rs36 : List AR := [.cell 4 true 64]
theorem ok36 : okF Tryd.prog 36 34 ac36 rs36 = true := by kernel_rfl
/-- (*simulacrum/disk.Disk).Write -/
def ac37 : AC := (.seq (.reg [⟨some 5, .h (.box (.t 2)), none⟩,
    ⟨some 6, .p (.mov (.c (.int .i64 0))), none⟩])
  (.seq (.reg [⟨some 8, .p (.mov (.t 0)), none⟩,
    ⟨some 9, .p (.mov (.t 1)), none⟩,
    ⟨some 10, .call 39 [(.t 8), (.t 9)], none⟩,
    ⟨some 7, .p (.mov (.t 10)), none⟩])
  (.seq (.seq (.reg [⟨some 11, .p (.mov (.t 7)), none⟩,
    ⟨some 12, .p (.bin .eql (.t 11) (.c (.int .i64 0))), none⟩])
  (.cond (.t 12) (.reg [⟨some 13, .p (.mov (.t 0)), none⟩,
    ⟨some 14, .call 46 [(.t 13)], none⟩,
    ⟨some 7, .p (.mov (.t 14)), none⟩]) .skip))
  (.seq (.seq (.reg [⟨some 15, .p (.mov (.t 7)), none⟩,
    ⟨some 16, .p (.bin .eql (.t 15) (.c (.int .i64 0))), none⟩])
  (.cond (.t 16) (.draw 15 [(11, 12), (10, 13), (12, 13), (11, 13), (8, 13), (3, 14), (13, 14), (8, 14), (10, 14), (11, 14), (12, 14)] [⟨some 17, .p (.mov (.t 0)), none⟩,
    ⟨some 18, .p (.nilchk (.t 17)), none⟩,
    ⟨some 19, .p (.fieldA 1 (.t 18)), none⟩,
    ⟨some 20, .h (.load false 1 (.t 19)), none⟩,
    ⟨some 21, .p (.mov (.t 1)), none⟩,
    ⟨some 22, .p (.mov (.t 0)), none⟩,
    ⟨some 23, .p (.nilchk (.t 22)), none⟩,
    ⟨some 24, .p (.fieldA 1 (.t 23)), none⟩,
    ⟨some 25, .h (.load false 1 (.t 24)), none⟩,
    ⟨some 26, .p (.mov (.t 1)), none⟩,
    ⟨some 27, .m (.get false (.c (.i .i64)) .nils (.t 25) (.t 26)), none⟩,
    ⟨some 28, .h (.load true 64 (.t 5)), none⟩,
    ⟨some 29, .d (.bslice 64 1 [(.int .u8 0), (.int .u8 0), (.int .u8 0), (.int .u8 0), (.int .u8 0), (.int .u8 0), (.int .u8 0), (.int .u8 0), (.int .u8 0), (.int .u8 0), (.int .u8 0), (.int .u8 0), (.int .u8 0), (.int .u8 0), (.int .u8 0), (.int .u8 0), (.int .u8 0), (.int .u8 0), (.int .u8 0), (.int .u8 0), (.int .u8 0), (.int .u8 0), (.int .u8 0), (.int .u8 0), (.int .u8 0), (.int .u8 0), (.int .u8 0), (.int .u8 0), (.int .u8 0), (.int .u8 0), (.int .u8 0), (.int .u8 0), (.int .u8 0), (.int .u8 0), (.int .u8 0), (.int .u8 0), (.int .u8 0), (.int .u8 0), (.int .u8 0), (.int .u8 0), (.int .u8 0), (.int .u8 0), (.int .u8 0), (.int .u8 0), (.int .u8 0), (.int .u8 0), (.int .u8 0), (.int .u8 0), (.int .u8 0), (.int .u8 0), (.int .u8 0), (.int .u8 0), (.int .u8 0), (.int .u8 0), (.int .u8 0), (.int .u8 0), (.int .u8 0), (.int .u8 0), (.int .u8 0), (.int .u8 0), (.int .u8 0), (.int .u8 0), (.int .u8 0), (.int .u8 0)] [(0, (.t 28))]), none⟩,
    ⟨some 30, .d (.append 64 64 (.t 27) (.t 29)), none⟩,
    ⟨none, .m (.set (.c (.i .i64)) (.t 20) (.t 21) (.t 30)), none⟩]) .skip))
  (.seq (.reg [⟨some 31, .p (.mov (.t 7)), none⟩,
    ⟨some 6, .p (.mov (.t 31)), none⟩])
  .ret)))))
def rs37 : List AR := [.tmp 6]
theorem ok37 : okF Tryd.prog 37 32 ac37 rs37 = true := by kernel_rfl
/-- (*simulacrum/disk.Disk).Sync -/
def ac38 : AC := (.seq (.reg [⟨some 2, .p (.mov (.c (.int .i64 0))), none⟩])
  (.seq (.reg [⟨some 6, .p (.mov (.t 0)), none⟩,
    ⟨some 7, .call 39 [(.t 6), (.c (.int .i64 0))], none⟩,
    ⟨some 3, .p (.mov (.t 7)), none⟩])
  (.seq (.seq (.reg [⟨some 8, .p (.mov (.t 3)), none⟩,
    ⟨some 9, .p (.bin .eql (.t 8) (.c (.int .i64 0))), none⟩])
  (.cond (.t 9) (.reg [⟨some 10, .p (.mov (.t 0)), none⟩,
    ⟨some 11, .call 46 [(.t 10)], none⟩,
    ⟨some 3, .p (.mov (.t 11)), none⟩]) .skip))
  (.seq (.seq (.reg [⟨some 12, .p (.mov (.t 3)), none⟩,
    ⟨some 13, .p (.bin .neq (.t 12) (.c (.int .i64 0))), none⟩])
  (.cond (.t 13) (.seq (.reg [⟨some 14, .p (.mov (.t 3)), none⟩,
    ⟨some 2, .p (.mov (.t 14)), none⟩])
  .ret) .skip))
  (.seq (.seq (.reg [⟨some 15, .p (.mov (.t 0)), none⟩,
    ⟨some 16, .p (.nilchk (.t 15)), none⟩,
    ⟨some 17, .p (.fieldA 1 (.t 16)), none⟩,
    ⟨some 18, .h (.load false 1 (.t 17)), none⟩,
    ⟨some 19, .m (.range (.t 18)), none⟩])
  (.block 0 (.loop (.seq (.reg [⟨some 20, .m (.next (.t 19)), none⟩,
    ⟨some 21, .p (.extract 0 (.t 20)), none⟩])
  (.seq (.cond (.t 21) .skip (.exit 0))
  (.block 1 (.seq (.reg [⟨some 22, .m (.entry (.t 19)), none⟩,
    ⟨some 23, .p (.extract 0 (.t 22)), none⟩,
    ⟨some 24, .p (.extract 1 (.t 22)), none⟩,
    ⟨some 4, .p (.mov (.t 23)), none⟩,
    ⟨some 5, .p (.mov (.t 24)), none⟩])
  (.seq (.draw 14 [(3, 13), (10, 13)] [⟨some 25, .p (.mov (.t 0)), none⟩,
    ⟨some 26, .p (.nilchk (.t 25)), none⟩,
    ⟨some 27, .p (.fieldA 0 (.t 26)), none⟩,
    ⟨some 28, .h (.load false 1 (.t 27)), none⟩,
    ⟨some 29, .p (.mov (.t 4)), none⟩,
    ⟨some 30, .p (.mov (.t 5)), none⟩,
    ⟨some 31, .p (.mov (.t 5)), none⟩,
    ⟨some 32, .p (.len false (.t 31)), none⟩,
    ⟨some 33, .p (.bin .sub (.t 32) (.c (.int .i64 1))), none⟩,
    ⟨some 34, .p (.idxA 64 none (.t 30) (.t 33)), none⟩,
    ⟨some 35, .h (.load true 64 (.t 34)), none⟩,
    ⟨some 36, .v (.build [(.int .u8 0), (.int .u8 0), (.int .u8 0), (.int .u8 0), (.int .u8 0), (.int .u8 0), (.int .u8 0), (.int .u8 0), (.int .u8 0), (.int .u8 0), (.int .u8 0), (.int .u8 0), (.int .u8 0), (.int .u8 0), (.int .u8 0), (.int .u8 0), (.int .u8 0), (.int .u8 0), (.int .u8 0), (.int .u8 0), (.int .u8 0), (.int .u8 0), (.int .u8 0), (.int .u8 0), (.int .u8 0), (.int .u8 0), (.int .u8 0), (.int .u8 0), (.int .u8 0), (.int .u8 0), (.int .u8 0), (.int .u8 0), (.int .u8 0), (.int .u8 0), (.int .u8 0), (.int .u8 0), (.int .u8 0), (.int .u8 0), (.int .u8 0), (.int .u8 0), (.int .u8 0), (.int .u8 0), (.int .u8 0), (.int .u8 0), (.int .u8 0), (.int .u8 0), (.int .u8 0), (.int .u8 0), (.int .u8 0), (.int .u8 0), (.int .u8 0), (.int .u8 0), (.int .u8 0), (.int .u8 0), (.int .u8 0), (.int .u8 0), (.int .u8 0), (.int .u8 0), (.int .u8 0), (.int .u8 0), (.int .u8 0), (.int .u8 0), (.int .u8 0), (.int .u8 0), (.bool false)] [(0, 64, (.t 35))]), none⟩,
    ⟨some 37, .p (.idxA 65 none (.t 28) (.t 29)), none⟩,
    ⟨none, .h (.store 65 (.t 37) (.t 36)), none⟩])
  (.reg [⟨some 38, .p (.mov (.t 0)), none⟩,
    ⟨some 39, .p (.nilchk (.t 38)), none⟩,
    ⟨some 40, .p (.fieldA 1 (.t 39)), none⟩,
    ⟨some 41, .h (.load false 1 (.t 40)), none⟩,
    ⟨some 42, .p (.mov (.t 4)), none⟩,
    ⟨none, .m (.delw (.c (.i .i64)) (.t 41) (.t 42) (.t 19)), none⟩])))))))))
  (.seq (.reg [⟨some 2, .p (.mov (.c (.int .i64 0))), none⟩])
  .ret))))))
def rs38 : List AR := [.tmp 2]
theorem ok38 : okF Tryd.prog 38 43 ac38 rs38 = true := by kernel_rfl
/-- (*simulacrum/disk.Disk).check -/
def ac39 : AC := (.seq (.reg [⟨some 4, .p (.mov (.c (.int .i64 0))), none⟩])
  (.seq (.block 0 (.seq (.reg [⟨some 6, .p (.mov (.t 0)), none⟩,
    ⟨some 7, .p (.nilchk (.t 6)), none⟩,
    ⟨some 8, .p (.fieldA 4 (.t 7)), none⟩,
    ⟨some 9, .h (.load false 1 (.t 8)), none⟩,
    ⟨some 5, .p (.mov (.t 9)), none⟩])
  (.cond (.t 5) (.seq (.reg [⟨some 4, .p (.mov (.c (.int .i64 12))), none⟩])
  .ret) (.seq (.reg [⟨some 11, .p (.mov (.t 1)), none⟩,
    ⟨some 12, .p (.bin .lss (.t 11) (.c (.int .i64 0))), none⟩,
    ⟨some 13, .p (.mov (.t 12)), none⟩,
    ⟨some 14, .p (.mov (.t 1)), (some (13, false))⟩,
    ⟨some 15, .p (.mov (.t 0)), (some (13, false))⟩,
    ⟨some 16, .p (.nilchk (.t 15)), (some (13, false))⟩,
    ⟨some 17, .p (.fieldA 0 (.t 16)), (some (13, false))⟩,
    ⟨some 18, .h (.load false 1 (.t 17)), (some (13, false))⟩,
    ⟨some 19, .p (.len false (.t 18)), (some (13, false))⟩,
    ⟨some 20, .p (.bin .geq (.t 14) (.t 19)), (some (13, false))⟩,
    ⟨some 21, .p (.pick (.t 13) (.c (.bool true)) (.t 20)), none⟩,
    ⟨some 10, .p (.mov (.t 21)), none⟩])
  (.cond (.t 10) (.seq (.reg [⟨some 4, .p (.mov (.c (.int .i64 1))), none⟩])
  .ret) .skip)))))
  (.seq (.reg [⟨some 4, .p (.mov (.c (.int .i64 0))), none⟩])
  .ret)))
def rs39 : List AR := [.tmp 4]
theorem ok39 : okF Tryd.prog 39 22 ac39 rs39 = true := by kernel_rfl
end Go.Proofs

namespace Go.Proofs
open Go Go.Eng
set_option maxRecDepth 100000
set_option maxHeartbeats 4000000
/-! ### The seal of a page in a slot -/
def sealN (n : Nat) (p : List Nat) : List Nat := dig (msg (nbs n) p) ++ List.replicate 48 0
theorem nbs_eq {n : Nat} (hn : n < 256) : [AV.int .u8 (IntKind.u8.wrap ((n : Int).fdiv (2 ^ 0))), AV.int .u8 (IntKind.u8.wrap ((n : Int).fdiv (2 ^ 8))), AV.int .u8 (IntKind.u8.wrap ((n : Int).fdiv (2 ^ 16))), AV.int .u8 (IntKind.u8.wrap ((n : Int).fdiv (2 ^ 24))), AV.int .u8 (IntKind.u8.wrap ((n : Int).fdiv (2 ^ 32))), AV.int .u8 (IntKind.u8.wrap ((n : Int).fdiv (2 ^ 40))), AV.int .u8 (IntKind.u8.wrap ((n : Int).fdiv (2 ^ 48))), AV.int .u8 (IntKind.u8.wrap ((n : Int).fdiv (2 ^ 56)))] = (nbs n).map B := by
  simp only [wb]
  rw [show n / 2 ^ 0 % 256 = n by omega, show n / 2 ^ 8 % 256 = 0 by omega, show n / 2 ^ 16 % 256 = 0 by omega, show n / 2 ^ 24 % 256 = 0 by omega, show n / 2 ^ 32 % 256 = 0 by omega, show n / 2 ^ 40 % 256 = 0 by omega, show n / 2 ^ 48 % 256 = 0 by omega, show n / 2 ^ 56 % 256 = 0 by omega]
  rfl
theorem lput16 {d : List Nat} {ds : List AV} {K : List AV → Prop} (hd : d.length = 16) (e : ds = d.map B) (hk : K ((d ++ List.replicate 48 0).map B)) : lputK (List.replicate 64 (B 0)) 0 ds K := by
  subst e
  refine lputK_eq (by simp; omega) (by rw [List.all_eq_true]; exact scal_bs d) ?_
  have : (List.replicate 64 (B 0)).take 0 ++ d.map B ++ (List.replicate 64 (B 0)).drop (0 + (d.map B).length) = (d ++ List.replicate 48 0).map B := by
    rw [List.length_map, hd, List.drop_replicate, List.map_append, List.map_replicate]; rfl
  rw [this]; exact hk
theorem c36a (n : Nat) (p d : List Nat) (hn : n < 256) (hp : p.length = 128) (hd : d.length = 16)
    (h45 : ∀ cap, CallA Tryd.prog 45 [I 27, .dslice [.str (txt (nbs n)), .str (txt p)] 2 cap] Heap.nil fun v H' => v = .agg (d.map B) ∧ H' = Heap.nil) :
    CallA Tryd.prog 36 [I n, .agg (p.map B)] Heap.nil fun v H' => v = .agg ((d ++ List.replicate 48 0).map B) ∧ H' = Heap.nil := by
  refine callA_of ok36 (Nat.le_of_ble_eq_true rfl) ?_
  have hN := nbs_eq hn
  have e16 : List.take (16 * 1) (List.drop 0 (d.map B)) = d.map B := by rw [List.drop_zero, List.take_of_length_le (by simp [hd])]
  have h64 : (d ++ List.replicate 48 0).length = 64 := by simp [hd]
  have hp2 : List.take (128 * 1) (List.drop 0 (p.map B)) = p.map B := by rw [List.drop_zero, List.take_of_length_le (by simp [hp])]
  repeat' ((conv => whnf); first
      | refine Branch.ofT rfl ?_
      | refine Branch.ofF rfl ?_
      | refine Branch.dec (fun h => ?_) (fun h => ?_)
      | refine Branch.negdec (fun h => ?_) (fun h => ?_)
      | refine Branch.neg (fun h => ?_) (fun h => ?_)
      | refine Branch.mk (fun h => ?_) (fun h => ?_)
      | (refine Side.mk ?_ ?_; · first | omega | decide)
      | (refine SideD.mk ?_ ?_; · first | omega | decide)
      | refine ⟨_, Nat.lt_succ_self _, To.refl (.inl ⟨rfl, ?_⟩)⟩
      | refine LoopA.unroll _ _ _ 9 ?_
      | refine bres hN ?_
      | refine bres hp2 ?_
      | refine Side.mk (by rw [List.length_map, hp]; omega) ?_
      | refine QCallA.of (h45 _) rfl (noLocL_bs d) ?_
      | refine condT (by rw [List.length_map, hd]; rfl) ?_
      | refine lputA (by rw [List.length_map, hd]; rfl) (by rw [List.all_eq_true]; exact scal_bs d) ?_
      | refine tkBn hd ?_
      | refine Side.mk (by rw [List.length_map, hd]; decide) ?_
      | refine lput16 hd e16 ?_
      | refine tkBn h64 ?_
      | refine condT (by rw [List.length_map, h64]; rfl) ?_
      | refine lputA (by rw [List.length_map, h64]; rfl) (by rw [List.all_eq_true]; exact scal_bs _) ?_
      | (refine Side.mk ?_ ?_; · (simp; done))
      | fail
      )
  all_goals (conv => whnf)
  exact RetA.data (v := .agg _) (noLocL_bs _) ⟨rfl, rfl⟩
theorem c36 (n : Nat) (p : List Nat) (hn : n < 256) (hp : p.length = 128) (hpb : ∀ x ∈ p, x < 256) : CallA Tryd.prog 36 [I n, .agg (p.map B)] Heap.nil fun v H' => v = .agg ((sealN n p).map B) ∧ H' = Heap.nil :=
  c36a n p _ hn hp (dig_len _) fun cap => c45 (nbs n) p cap rfl hp (nbs_lt hn) hpb
end Go.Proofs

namespace Go.Proofs
open Go Go.Eng
set_option maxRecDepth 100000
set_option maxHeartbeats 2000000
/-- A disk, and the sectors that are written and not yet durable. -/
def ent (x : Nat × List AV) : AV × AV := (I x.1, .dslice x.2 1 none)
def emap (ls : List (Nat × List AV)) : List (AV × AV) := ls.map ent
def dk (n : Nat) (st : Int) : List AV := [.slice 1 0 n (some n) 65, .map 2, I st, I (-1), .bool false]
def hS (n : Nat) (st : Int) (ch : List (List AV)) (ls : List (Nat × List AV)) : Heap := ⟨3, [(0, .cells (dk n st)), (1, .cells ch.flatten), (2, .map (emap ls))]⟩
theorem c39 (n : Nat) (st : Int) (ch : List (List AV)) (ls : List (Nat × List AV)) (hn : 0 < n) : CallA Tryd.prog 39 [.ptr 0 0, I 0] (hS n st ch ls) fun v H' => v = I 0 ∧ H' = hS n st ch ls := by
  refine callA_of ok39 (Nat.le_of_ble_eq_true rfl) ?_
  repeat' ((conv => whnf); first
      | refine Branch.ofT rfl ?_
      | refine Branch.ofF rfl ?_
      | refine Branch.ofF (decide_eq_false (by omega)) ?_
      | refine Branch.dec (fun h => ?_) (fun h => ?_)
      | refine Branch.negdec (fun h => ?_) (fun h => ?_)
      | refine Branch.neg (fun h => ?_) (fun h => ?_)
      | refine Branch.mk (fun h => ?_) (fun h => ?_)
      | (refine Side.mk ?_ ?_; · first | omega | decide)
      | (refine SideD.mk ?_ ?_; · first | omega | decide)
      | refine ⟨_, Nat.lt_succ_self _, To.refl (.inl ⟨rfl, ?_⟩)⟩
      | (refine Side.mk ?_ ?_; · (simp; done))
      | fail
      )
  all_goals (conv => whnf)
  all_goals exact RetA.same ⟨rfl, rfl⟩
theorem c46 (n : Nat) (st : Int) (ch : List (List AV)) (ls : List (Nat × List AV)) (h0 : 0 ≤ st) (h1 : st < 1000000) : CallA Tryd.prog 46 [.ptr 0 0] (hS n st ch ls) fun v H' => v = I 0 ∧ H' = hS n (st + 1) ch ls := by
  refine CallA.ext (K := fun v H' => v = I 0 ∧ H'.get = (hS n (st + 1) ch ls).get ∧ H'.nx = 3) ?_ (fun v H' h => ⟨_, h.2.1, h.2.2, h.1, rfl⟩)
  refine callA_of ok46 (Nat.le_of_ble_eq_true rfl) ?_
  repeat' ((conv => whnf); first
      | refine Branch.ofT rfl ?_
      | refine Branch.ofF rfl ?_
      | refine Branch.ofF (decide_eq_false (by omega)) ?_
      | refine Branch.dec (fun h => ?_) (fun h => ?_)
      | refine Branch.negdec (fun h => ?_) (fun h => ?_)
      | refine Branch.neg (fun h => ?_) (fun h => ?_)
      | refine Branch.mk (fun h => ?_) (fun h => ?_)
      | (refine Side.mk ?_ ?_; · first | omega | decide)
      | (refine SideD.mk ?_ ?_; · first | omega | decide)
      | refine ⟨_, Nat.lt_succ_self _, To.refl (.inl ⟨rfl, ?_⟩)⟩
      | (refine Side.mk ?_ ?_; · (simp; done))
      | fail
      )
  all_goals (conv => whnf)
  refine RetA.same ⟨rfl, ?_, rfl⟩
  funext j
  cases j <;> rfl
def fin1 (ch : List (List AV)) (x : Nat × List AV) : List (List AV) := ch.set x.1 (x.2 ++ [.bool false])
def fin (ch : List (List AV)) (ls : List (Nat × List AV)) : List (List AV) := ls.foldl fin1 ch
structure OkS (n : Nat) (ch : List (List AV)) (ls : List (Nat × List AV)) : Prop where
  len : ch.length = n
  pos : 0 < n
  sz : ∀ c ∈ ch, c.length = 65 ∧ ∀ x ∈ c, noLoc x = true
  keys : (ls.map (·.1)).Nodup
  lt : ∀ x ∈ ls, x.1 < n
  ent : ∀ x ∈ ls, x.2.length = 64 ∧ (∀ c ∈ x.2, scal c = true) ∧ ∀ c ∈ x.2, noLoc c = true
theorem fin_swap (ch : List (List AV)) {x y : Nat × List AV} (h : x.1 ≠ y.1) : fin1 (fin1 ch x) y = fin1 (fin1 ch y) x := by
  unfold fin1; rw [List.set_comm _ _ h]
theorem fin_out : ∀ (l1 : List (Nat × List AV)) (x : Nat × List AV) (l2 : List (Nat × List AV)) (ch : List (List AV)), ((l1 ++ x :: l2).map (·.1)).Nodup → fin ch (l1 ++ x :: l2) = fin (fin1 ch x) (l1 ++ l2)
  | [], x, l2, ch, _ => rfl
  | y :: l1, x, l2, ch, h => by
    simp only [List.cons_append, List.map_cons, List.nodup_cons] at h
    show fin (fin1 ch y) (l1 ++ x :: l2) = fin (fin1 (fin1 ch x) y) (l1 ++ l2)
    rw [fin_out l1 x l2 _ h.2, fin_swap ch (x := x) (y := y)]
    intro e
    exact h.1 (by rw [← e]; simp)
theorem OkS.out {n : Nat} {ch : List (List AV)} {l1 l2 : List (Nat × List AV)} {x : Nat × List AV} (h : OkS n ch (l1 ++ x :: l2)) : OkS n (fin1 ch x) (l1 ++ l2) := by
  have hx := h.ent x (by simp)
  refine ⟨by unfold fin1; simp [h.len], h.pos, fun c hc => ?_, ?_, fun y hy => h.lt y ?_, fun y hy => h.ent y ?_⟩
  · rcases List.mem_or_eq_of_mem_set hc with hc | rfl
    · exact h.sz c hc
    · refine ⟨by simp [hx.1], fun d hd => ?_⟩
      rcases List.mem_append.1 hd with hd | hd
      · exact hx.2.2 d hd
      · rw [List.mem_singleton.1 hd]; rfl
  · have := h.keys
    rw [List.map_append, List.map_cons, List.nodup_append] at this
    rw [List.map_append, List.nodup_append]
    exact ⟨this.1, (List.nodup_cons.1 this.2.1).2, fun a ha b hb => this.2.2 a ha b (List.mem_cons_of_mem _ hb)⟩
  all_goals (rcases List.mem_append.1 hy with hy | hy <;> simp [hy])
def L38 (n : Nat) (st : Int) (cf : List (List AV)) (m : Nat) (fr : Fr) (H : Heap) : Prop := ∃ ch ls, OkS n ch ls ∧ m = ls.length ∧ fin ch ls = cf ∧ fr = [(0, .ptr 0 0), (19, .ptr 3 0)] ∧ H = ⟨4, [(0, .cells (dk n st)), (1, .cells ch.flatten), (2, .map (emap ls)), (3, .iter 2 (emap ls) none)]⟩
theorem emap_split {ls : List (Nat × List AV)} {l1 l2 : List (AV × AV)} {a b : AV} (h : emap ls = l1 ++ (a, b) :: l2) : ∃ m1 x m2, ls = m1 ++ x :: m2 ∧ l1 = emap m1 ∧ a = I x.1 ∧ b = .dslice x.2 1 none ∧ l2 = emap m2 := by
  obtain ⟨m1, r, rfl, rfl, h2⟩ := List.map_eq_append_iff.1 h
  obtain ⟨x, m2, rfl, h3, rfl⟩ := List.map_eq_cons_iff.1 h2
  simp only [ent, Prod.mk.injEq] at h3
  exact ⟨m1, x, m2, rfl, rfl, h3.1.symm, h3.2.symm, rfl⟩
theorem tkA {l : List AV} {n k : Nat} {K : List AV → Prop} (hk : k = 0) (h : l.length = n) (hK : K l) : takeK n (l.drop k) K := by
  subst hk h
  rw [List.drop_zero, takeK_eq _ _ _ (Nat.le_refl _), List.take_length]; exact hK
theorem lput65 {cs vs : List AV} {K : List AV → Prop} (h1 : cs.length = 65) (h2 : cs.drop 64 = [.bool false]) (h3 : vs.length = 64) (hs : ∀ c ∈ vs, scal c = true) (hk : K (vs ++ [.bool false])) : lputK cs 0 vs K := by
  refine lputK_eq (by omega) (by simpa using hs) ?_
  rw [Nat.zero_add, h3, h2]; simpa using hk
theorem scal65 {vs : List AV} (hs : ∀ c ∈ vs, scal c = true) : (vs ++ [AV.bool false]).all scal = true := by
  rw [List.all_append, List.all_eq_true.2 hs]; rfl
theorem stCh : ∀ {ch : List (List AV)} {i off : Nat} {vs : List AV} {K : List AV → Prop}, off = i * 65 → i < ch.length → (∀ c ∈ ch, c.length = 65) → vs.length = 65 → vs.all scal = true → K (ch.set i vs).flatten → lputK ch.flatten off vs K
  | [], _, _, _, _, _, h, _, _, _, _ => by simp at h
  | c :: ch, 0, off, vs, K, e, h, hc, hv, hs, hk => by
    subst e
    have h1 := hc c (by simp)
    refine lputK_eq (by simp; omega) hs ?_
    rw [Nat.zero_mul, Nat.zero_add, hv, List.flatten_cons, List.drop_append, List.drop_eq_nil_of_le (by omega), h1]
    simpa using hk
  | c :: ch, i + 1, off, vs, K, e, h, hc, hv, hs, hk => by
    subst e
    have h1 := hc c (by simp)
    have e : (i + 1) * 65 = c.length + i * 65 := by omega
    rw [e, List.flatten_cons]
    have go : ∀ {l : List AV} {K : List AV → Prop}, lputK ch.flatten (i * 65) vs (fun r => K (l ++ r)) → lputK (l ++ ch.flatten) (l.length + i * 65) vs K := by
      intro l
      induction l with
      | nil => intro K h; simpa using h
      | cons a l ih =>
        intro K h
        have : (a :: l).length + i * 65 = (l.length + i * 65) + 1 := by simp; omega
        rw [this, List.cons_append, lputK]
        exact ih h
    exact go (stCh rfl (by simpa using h) (fun d hd => hc d (by simp [hd])) hv hs hk)
theorem eqI (a b : Int) : eqK (.c (.i .i64)) (I a) (I b) = some (decide (a = b)) := rfl
theorem mfind_out : ∀ {m1 m2 : List (Nat × List AV)} {x : Nat × List AV}, ((m1 ++ x :: m2).map (·.1)).Nodup → mfind (.c (.i .i64)) (I x.1) (emap m1 ++ emap m2) = some none := by
  intro m1 m2 x h
  have key : ∀ l : List (Nat × List AV), x.1 ∉ l.map (·.1) → mfind (.c (.i .i64)) (I x.1) (emap l) = some none := by
    intro l
    induction l with
    | nil => intro _; rfl
    | cons y l ih =>
      intro hx
      simp only [List.map_cons, List.mem_cons, not_or] at hx
      show mfind (.c (.i .i64)) (I x.1) ((I y.1, _) :: emap l) = _
      rw [mfind, eqI, decide_eq_false (by omega)]
      exact ih hx.2
  have : emap m1 ++ emap m2 = emap (m1 ++ m2) := by simp [emap]
  rw [this]
  refine key _ ?_
  rw [List.map_append, List.map_cons, List.nodup_append] at h
  rw [List.map_append, List.mem_append]
  rintro (hm | hm)
  · exact h.2.2 _ hm _ List.mem_cons_self rfl
  · exact (List.nodup_cons.1 h.2.1).1 hm
theorem mdel_out : ∀ {m1 m2 : List (Nat × List AV)} {x : Nat × List AV}, ((m1 ++ x :: m2).map (·.1)).Nodup → mdel (.c (.i .i64)) (I x.1) (emap (m1 ++ x :: m2)) = some (emap (m1 ++ m2))
  | [], m2, x, _ => by
    show mdel (.c (.i .i64)) (I x.1) ((I x.1, _) :: emap m2) = _
    rw [mdel, eqI, decide_eq_true rfl]; rfl
  | y :: m1, m2, x, h => by
    simp only [List.cons_append, List.map_cons, List.nodup_cons] at h
    show mdel (.c (.i .i64)) (I x.1) ((I y.1, _) :: emap (m1 ++ x :: m2)) = _
    rw [mdel, eqI, decide_eq_false (fun e => h.1 (by rw [show y.1 = x.1 by omega]; simp)), mdel_out h.2]
    rfl
theorem emap_app (a b : List (Nat × List AV)) : emap (a ++ b) = emap a ++ emap b := by simp [emap]
theorem OkS.dat {n : Nat} {ch : List (List AV)} {ls : List (Nat × List AV)} (h : OkS n ch ls) : ∀ c ∈ ch.flatten, noLoc c = true := by
  intro c hc
  obtain ⟨l, hl, hc⟩ := List.mem_flatten.1 hc
  exact (h.sz l hl).2 c hc
theorem c38 {n : Nat} {st : Int} {ch : List (List AV)} {ls : List (Nat × List AV)} (h : OkS n ch ls) (hn : n < 1000000) (h0 : 0 ≤ st) (h1 : st < 1000000) : CallA Tryd.prog 38 [.ptr 0 0] (hS n st ch ls) fun v H' => v = I 0 ∧ H' = hS n (st + 1) (fin ch ls) [] := by
  refine callA_of ok38 (Nat.le_of_ble_eq_true rfl) ?_
  have h39 := c39 n st ch ls h.pos
  have h46 := c46 n st ch ls h0 h1
  repeat' ((conv => whnf); first
      | refine Branch.ofT rfl ?_
      | refine Branch.ofF rfl ?_
      | refine Branch.dec (fun h => ?_) (fun h => ?_)
      | refine Branch.negdec (fun h => ?_) (fun h => ?_)
      | refine Branch.neg (fun h => ?_) (fun h => ?_)
      | refine Branch.mk (fun h => ?_) (fun h => ?_)
      | (refine Side.mk ?_ ?_; · first | omega | decide)
      | (refine SideD.mk ?_ ?_; · first | omega | decide)
      | refine ⟨_, Nat.lt_succ_self _, To.refl (.inl ⟨rfl, ?_⟩)⟩
      | refine CallA.ext h39 (fun v H' hv => ⟨_, rfl, rfl, ?_⟩)
      | refine CallA.ext h46 (fun v H' hv => ⟨_, rfl, rfl, ?_⟩)
      | (obtain ⟨rfl, rfl⟩ := hv)
      | (refine Side.mk ?_ ?_; · (simp; done))
      | fail
      )
  all_goals (conv => whnf)
  refine ⟨L38 n (st + 1) (fin ch ls), ls.length, To.gc [(0, false), (1, true), (2, true), (3, false)] [0, 19] rfl ⟨h.dat, trivial, trivial⟩ ⟨ch, ls, h, rfl, rfl, rfl, rfl⟩, ?_⟩
  generalize fin ch ls = cf
  rintro m fr H ⟨ch, ls, h, rfl, rfl, rfl, rfl⟩
  repeat' ((conv => whnf); first
      | refine Branch.ofT rfl ?_
      | refine Branch.ofF rfl ?_
      | refine Branch.dec (fun h => ?_) (fun h => ?_)
      | refine Branch.negdec (fun h => ?_) (fun h => ?_)
      | refine Branch.neg (fun h => ?_) (fun h => ?_)
      | refine Branch.mk (fun h => ?_) (fun h => ?_)
      | (refine Side.mk ?_ ?_; · first | omega | decide)
      | (refine SideD.mk ?_ ?_; · first | omega | decide)
      | refine ⟨_, Nat.lt_succ_self _, To.refl (.inl ⟨rfl, ?_⟩)⟩
      | refine NextA.mk (fun hd => ?_) (fun l1 a b l2 he => ?_)
      | (obtain ⟨m1, x, m2, rfl, rfl, rfl, rfl, rfl⟩ := emap_split he)
      | refine tkA (by rfl) (h.ent x (by simp)).1 ?_
      | refine condT (by simp [(h.ent x (by simp)).1]) ?_
      | refine lput65 rfl rfl (h.ent x (by simp)).1 (h.ent x (by simp)).2.1 ?_
      | refine stCh (i := x.1) (by omega) (by rw [h.len]; exact h.lt x (by simp)) (fun c hc => (h.sz c hc).1) (by simp [(h.ent x (by simp)).1]) (scal65 (h.ent x (by simp)).2.1) ?_
      | refine Side.mk ⟨by omega, by have := h.lt x (by simp); omega⟩ ?_
      | refine MRes.mk ⟨_, mfind_out h.keys, ?_⟩
      | refine MRes.mk ⟨_, mdel_out h.keys, ?_⟩
      | refine Side.mk rfl ?_
      | (refine Side.mk ?_ ?_; · (simp; done))
      | fail
      )
  all_goals (conv => whnf)
  · have : ls = [] := List.map_eq_nil_iff.1 hd
    subst this
    exact RetA.gc [(0, false), (1, true), (2, true)] rfl ⟨h.dat, trivial, trivial⟩ ⟨rfl, rfl⟩
  · exact ⟨(m1 ++ m2).length, by simp, To.gc [(0, false), (1, true), (2, true), (3, false)] [0, 19] rfl ⟨h.out.dat, trivial, trivial⟩ ⟨_, m1 ++ m2, h.out, rfl, (fin_out m1 x m2 ch h.keys).symm, rfl, by rw [emap_app]; rfl⟩⟩
end Go.Proofs

namespace Go.Eng
open Go

variable [Globs]
/-! ### A run of closed text, by computing -/
inductive BT (α : Type) where
  | nil
  | node (v : Option α) (l r : BT α)
namespace BT
variable {α : Type}
def get : BT α → Nat → Option α
  | nil, _ => none
  | node v l r, n => match n with
    | 0 => v
    | n + 1 => bif Nat.beq (Nat.mod n 2) 0 then l.get (Nat.div n 2) else r.get (Nat.div n 2)
def set (v : α) : Nat → BT α → Nat → Option (BT α)
  | 0, _, _ => none
  | d + 1, nil, n => match n with
    | 0 => some (node (some v) nil nil)
    | n + 1 => bif Nat.beq (Nat.mod n 2) 0 then (match set v d nil (Nat.div n 2) with
      | some l => some (node none l nil)
      | none => none) else (match set v d nil (Nat.div n 2) with
      | some r => some (node none nil r)
      | none => none)
  | d + 1, node u l r, n => match n with
    | 0 => some (node (some v) l r)
    | n + 1 => bif Nat.beq (Nat.mod n 2) 0 then (match set v d l (Nat.div n 2) with
      | some l => some (node u l r)
      | none => none) else (match set v d r (Nat.div n 2) with
      | some r => some (node u l r)
      | none => none)
theorem par {n m : Nat} (h : Nat.mod n 2 = Nat.mod m 2) (k : Nat.div n 2 = Nat.div m 2) : n = m := by
  have h : n % 2 = m % 2 := h
  have k : n / 2 = m / 2 := k
  omega
theorem get_set (v : α) : ∀ {d : Nat} {t t' : BT α} {n : Nat}, set v d t n = some t' → ∀ m, t'.get m = if n = m then some v else t.get m
  | 0, _, _, _, h, _ => by simp [set] at h
  | d + 1, nil, t', n, h, m => by
    cases n with
    | zero =>
      simp only [set, Option.some.injEq] at h; subst h
      cases m with
      | zero => simp [get]
      | succ m => simp [get]
    | succ n =>
      simp only [set] at h
      cases hb : Nat.beq (Nat.mod n 2) 0 <;> simp only [hb, cond_true, cond_false] at h
      all_goals
        split at h
        · rename_i s hs
          simp only [Option.some.injEq] at h; subst h
          have ih := get_set v hs
          cases m with
          | zero => simp [get]
          | succ m =>
            simp only [get, Nat.add_right_cancel_iff]
            have h2 : Nat.mod n 2 < 2 := Nat.mod_lt _ (by decide)
            have h3 : Nat.mod m 2 < 2 := Nat.mod_lt _ (by decide)
            cases hc : Nat.beq (Nat.mod m 2) 0 <;> simp only [cond_true, cond_false]
            all_goals first
              | (rw [ih]
                 by_cases e : Nat.div n 2 = Nat.div m 2
                 · rw [if_pos e, if_pos]
                   refine par ?_ e
                   cases hn : Nat.mod n 2 with
                   | zero => cases hm : Nat.mod m 2 with
                     | zero => rfl
                     | succ y => rw [hn] at hb; rw [hm] at hc; simp at hb hc
                   | succ x => cases hm : Nat.mod m 2 with
                     | zero => rw [hn] at hb; rw [hm] at hc; simp at hb hc
                     | succ y => omega
                 · rw [if_neg e, if_neg (fun h => e (by rw [h]))]; try rfl)
              | (rw [if_neg]; rintro rfl; rw [hb] at hc; cases hc)
              | (rw [if_neg]; · (try rfl)
                 rintro rfl; rw [hb] at hc; cases hc)
        · cases h
  | d + 1, node u l r, t', n, h, m => by
    cases n with
    | zero =>
      simp only [set, Option.some.injEq] at h; subst h
      cases m with
      | zero => simp [get]
      | succ m => simp [get]
    | succ n =>
      simp only [set] at h
      cases hb : Nat.beq (Nat.mod n 2) 0 <;> simp only [hb, cond_true, cond_false] at h
      all_goals
        split at h
        · rename_i s hs
          simp only [Option.some.injEq] at h; subst h
          have ih := get_set v hs
          cases m with
          | zero => simp [get]
          | succ m =>
            simp only [get, Nat.add_right_cancel_iff]
            have h2 : Nat.mod n 2 < 2 := Nat.mod_lt _ (by decide)
            have h3 : Nat.mod m 2 < 2 := Nat.mod_lt _ (by decide)
            cases hc : Nat.beq (Nat.mod m 2) 0 <;> simp only [cond_true, cond_false]
            all_goals first
              | (rw [ih]
                 by_cases e : Nat.div n 2 = Nat.div m 2
                 · rw [if_pos e, if_pos]
                   refine par ?_ e
                   cases hn : Nat.mod n 2 with
                   | zero => cases hm : Nat.mod m 2 with
                     | zero => rfl
                     | succ y => rw [hn] at hb; rw [hm] at hc; simp at hb hc
                   | succ x => cases hm : Nat.mod m 2 with
                     | zero => rw [hn] at hb; rw [hm] at hc; simp at hb hc
                     | succ y => omega
                 · rw [if_neg e, if_neg (fun h => e (by rw [h]))]; try rfl)
              | (rw [if_neg]; rintro rfl; rw [hb] at hc; cases hc)
              | (rw [if_neg]; · (try rfl)
                 rintro rfl; rw [hb] at hc; cases hc)
        · cases h
end BT

/-! #### Values, brought to literals -/
section
variable {β : Type}
def forceN (m : Nat) (K : Nat → Option β) : Option β := match m with
  | 0 => K 0
  | n + 1 => K (n + 1)
theorem forceN_eq (m : Nat) (K : Nat → Option β) : forceN m K = K m := by cases m <;> rfl
def forceI (n : Int) (K : Int → Option β) : Option β := match n with
  | .ofNat m => forceN m fun m => K (.ofNat m)
  | .negSucc m => forceN m fun m => K (.negSucc m)
theorem forceI_eq (m : Int) (K : Int → Option β) : forceI m K = K m := by cases m <;> simp [forceI, forceN_eq]
def forceB (b : Bool) (K : Bool → Option β) : Option β := match b with
  | true => K true
  | false => K false
theorem forceB_eq (m : Bool) (K : Bool → Option β) : forceB m K = K m := by cases m <;> rfl
def fvE (v : AV) (K : AV → Option β) : Option β := match v with
  | .bool b => forceB b fun b => K (.bool b)
  | .int k n => forceI n fun n => K (.int k n)
  | .ptr k o => forceN k fun k => forceN o fun o => K (.ptr k o)
  | .slice k o l c e => forceN k fun k => forceN o fun o => forceN l fun l => K (.slice k o l c e)
  | .dslice cs l c => forceN l fun l => K (.dslice cs l c)
  | v => K v
theorem fvE_eq (v : AV) (K : AV → Option β) : fvE v K = K v := by cases v <;> simp [fvE, forceN_eq, forceI_eq, forceB_eq]
end

/-! #### Operations -/
def binIE (op : BinOp) (a b : Int) : Option AV := match op with
  | .add => if (-9223372036854775808 ≤ a + b ∧ a + b ≤ 9223372036854775807) then some (.int .i64 (a + b)) else none
  | .sub => if (-9223372036854775808 ≤ a - b ∧ a - b ≤ 9223372036854775807) then some (.int .i64 (a - b)) else none
  | .mul => if (-9223372036854775808 ≤ a * b ∧ a * b ≤ 9223372036854775807) then some (.int .i64 (a * b)) else none
  | .quo => if (0 ≤ a ∧ a ≤ 9223372036854775807 ∧ 0 < b) then some (.int .i64 (a / b)) else none
  | .rem => if (0 ≤ a ∧ 0 < b) then some (.int .i64 (a % b)) else none
  | .lss => some (.bool (decide (a < b)))
  | .leq => some (.bool (decide (a ≤ b)))
  | .gtr => some (.bool (decide (b < a)))
  | .geq => some (.bool (decide (b ≤ a)))
  | .eql => some (.bool (decide (a = b)))
  | .neq => some (.bool (!decide (a = b)))
  | _ => none
theorem binIE_run {op : BinOp} {a b : Int} {v : AV} {K : AV → Prop} (h : binIE op a b = some v) (hk : K v) : binI op a b K := by
  unfold binIE at h; unfold binI
  cases op <;> simp only at h ⊢ <;> first
    | (cases h; done)
    | (split at h <;> first | (cases h; done) | (rename_i hp; cases h; exact ⟨hp, hk⟩))
    | (cases h; exact hk)
def binWE (op : BinOp) (k : IntKind) (a b : Int) : Option AV := match op with
  | .add => some (.int k (k.wrap (a + b)))
  | .sub => some (.int k (k.wrap (a - b)))
  | .mul => some (.int k (k.wrap (a * b)))
  | .quo => if b ≠ 0 then some (.int k (k.wrap (a.tdiv b))) else none
  | .rem => if b ≠ 0 then some (.int k (a.tmod b)) else none
  | .and => some (.int k (k.wrap (BitVec.ofInt k.bits a &&& BitVec.ofInt k.bits b).toNat))
  | .or => some (.int k (k.wrap (BitVec.ofInt k.bits a ||| BitVec.ofInt k.bits b).toNat))
  | .xor => some (.int k (k.wrap (BitVec.ofInt k.bits a ^^^ BitVec.ofInt k.bits b).toNat))
  | .andNot => some (.int k (k.wrap (BitVec.ofInt k.bits a &&& ~~~(BitVec.ofInt k.bits b)).toNat))
  | .lss => some (.bool (decide (a < b)))
  | .leq => some (.bool (decide (a ≤ b)))
  | .gtr => some (.bool (decide (b < a)))
  | .geq => some (.bool (decide (b ≤ a)))
  | .eql => some (.bool (decide (a = b)))
  | .neq => some (.bool (!decide (a = b)))
  | _ => none
theorem binWE_run {op : BinOp} {k : IntKind} {a b : Int} {v : AV} {K : AV → Prop} (h : binWE op k a b = some v) (hk : K v) : binW op k a b K := by
  unfold binWE at h; unfold binW
  cases op <;> simp only at h ⊢ <;> first
    | (cases h; done)
    | (split at h <;> first | (cases h; done) | (rename_i hp; cases h; exact ⟨hp, hk⟩))
    | (cases h; exact hk)

def mapE (f : AX → AV) : List AX → List AV
  | [] => []
  | x :: r => f x :: mapE f r
theorem mapE_eq (f : AX → AV) : ∀ l, mapE f l = l.map f
  | [] => rfl
  | _ :: r => by simp [mapE, mapE_eq f r]
def POp.e (ev : AX → AV) : POp → Option AV
  | .mov x => some (ev x)
  | .pick c a b => match ev c with
    | .bool t => match t with
      | true => some (ev a)
      | false => some (ev b)
    | _ => none
  | .bin op x y => match ev x, ev y with
    | .int .i64 a, .int .i64 b => binIE op a b
    | .str a, .str b => match op with
      | .eql => some (.bool (decide (a = b)))
      | .neq => some (.bool (!decide (a = b)))
      | _ => none
    | _, _ => none
  | .beq neg x y => match ev x, ev y with
    | .bool a, .bool b => some (.bool (if neg then !(a == b) else a == b))
    | _, _ => none
  | .binw op x y => match ev x, ev y with
    | .int k a, .int k' b => match op with
      | .shl => if 0 ≤ b then some (.int k (k.wrap (a * 2 ^ min b.toNat k.bits))) else none
      | .shr => if 0 ≤ b then some (.int k (a.fdiv (2 ^ min b.toNat k.bits))) else none
      | op => if k = k' then binWE op k a b else none
    | _, _ => none
  | .un op x => match op, ev x with
    | .not, .bool b => some (.bool (!b))
    | .neg, .int .i64 n => if (-9223372036854775807 ≤ n ∧ n ≤ 9223372036854775807) then some (.int .i64 (-n)) else none
    | .xor, .int k n => some (.int k (k.wrap (BitVec.ofInt k.bits (if k.signed then -1 else k.max) ^^^ BitVec.ofInt k.bits n).toNat))
    | _, _ => none
  | .conv k x => match ev x with
    | .int _ n => if (k.min ≤ n ∧ n ≤ k.max) then some (.int k n) else none
    | _ => none
  | .convw k x => match ev x with
    | .int _ n => some (.int k (k.wrap n))
    | _ => none
  | .fieldA off x => match ev x with
    | .dptr cs => some (.dptr (cs.drop off))
    | .ptr k o => some (.ptr k (o + off))
    | _ => none
  | .idxA e arr x i => match ev i with
    | .int _ i => match arr, ev x with
      | some n, .dptr cs => if (0 ≤ i ∧ i < n) then some (.dptr (cs.drop (i.toNat * e))) else none
      | some n, .ptr k o => if (0 ≤ i ∧ i < n) then some (.ptr k (o + i.toNat * e)) else none
      | none, .dslice cs n _ => if (0 ≤ i ∧ i < n) then some (.dptr (cs.drop (i.toNat * e))) else none
      | none, .slice k o n _ _ => if (0 ≤ i ∧ i < n) then some (.ptr k (o + i.toNat * e)) else none
      | _, _ => none
    | _ => none
  | .len str x => match str, ev x with
    | false, .dslice _ n _ => some (.int .i64 n)
    | false, .slice _ _ n _ _ => some (.int .i64 n)
    | false, .nils => some (.int .i64 0)
    | true, .str s => some (.int .i64 s.size)
    | _, _ => none
  | .extract i x => match ev x with
    | .tuple cs => cs[i]?
    | _ => none
  | .mkfn f caps => some (.func f (mapE ev caps))
  | .nilchk x => match ev x with
    | .ptr k o => some (.ptr k o)
    | .dptr cs => some (.dptr cs)
    | .func f cs => some (.func f cs)
    | _ => none
  | .mm mx x y => match ev x, ev y with
    | .int k a, .int _ b => some (.int k (if mx then (if b > a then b else a) else (if b < a then b else a)))
    | _, _ => none
  | .other => some .any
  | .panic => none
theorem POp.e_run {ev : AX → AV} {K : AV → Prop} {o : POp} {v : AV} (h : o.e ev = some v) (hk : K v) : o.run ev K := by
  cases o <;> simp only [POp.e, POp.run, fv_eq, fvs_eq] at h ⊢
  case mov x => cases h; exact hk
  case pick c a b =>
    generalize ev c = vc at h ⊢
    cases vc <;> simp only at h ⊢
    all_goals first | (cases h; done) | skip
    rename_i t
    cases t <;> simp only at h <;> cases h
    · exact Branch.ofF rfl hk
    · exact Branch.ofT rfl hk
  case bin op x y =>
    generalize ev x = vx at h ⊢
    generalize ev y = vy at h ⊢
    split at h
    · exact binIE_run h hk
    · cases op <;> simp only at h ⊢ <;> first | (cases h; exact hk) | cases h
    · cases h
  case beq neg x y =>
    generalize ev x = vx at h ⊢
    generalize ev y = vy at h ⊢
    split at h
    · cases h; exact hk
    · cases h
  case binw op x y =>
    generalize ev x = vx at h ⊢
    generalize ev y = vy at h ⊢
    split at h
    · cases op <;> simp only at h ⊢
      all_goals (split at h <;> first | (cases h; done) | skip)
      all_goals first | (refine ⟨‹_›, ?_⟩; exact binWE_run h hk) | (cases h; exact ⟨‹_›, hk⟩)
    · cases h
  case un op x =>
    generalize ev x = vx at h ⊢
    split at h
    · cases h; exact hk
    · split at h
      · cases h; exact ⟨‹_›, hk⟩
      · cases h
    · cases h; exact hk
    · cases h
  case conv k x =>
    generalize ev x = vx at h ⊢
    split at h
    · split at h
      · cases h; exact ⟨‹_›, hk⟩
      · cases h
    · cases h
  case convw k x =>
    generalize ev x = vx at h ⊢
    split at h
    · cases h; exact hk
    · cases h
  case fieldA off x =>
    generalize ev x = vx at h ⊢
    split at h
    · cases h; exact hk
    · cases h; exact hk
    · cases h
  case idxA e arr x i =>
    generalize ev x = vx at h ⊢
    generalize ev i = vi at h ⊢
    split at h
    · split at h
      · split at h
        · cases h; exact ⟨‹_›, hk⟩
        · cases h
      · split at h
        · cases h; exact ⟨‹_›, hk⟩
        · cases h
      · split at h
        · cases h; exact ⟨‹_›, hk⟩
        · cases h
      · split at h
        · cases h; exact ⟨‹_›, hk⟩
        · cases h
      · cases h
    · cases h
  case len str x =>
    generalize ev x = vx at h ⊢
    split at h <;> first | (cases h; exact hk) | cases h
  case extract i x =>
    generalize ev x = vx at h ⊢
    split at h
    · simp only [h]; exact hk
    · cases h
  case mkfn f caps => cases h; rw [mapE_eq] at hk; exact hk
  case nilchk x =>
    generalize ev x = vx at h ⊢
    split at h <;> first | (cases h; exact hk) | cases h
  case mm mx x y =>
    generalize ev x = vx at h ⊢
    generalize ev y = vy at h ⊢
    split at h <;> first | (cases h; exact hk) | cases h
  case other => cases h; exact hk
  case panic => cases h

def takeE : Nat → List AV → Option (List AV)
  | 0, _ => some []
  | n + 1, c :: r => match takeE n r with
    | some l => some (c :: l)
    | none => none
  | _ + 1, [] => none
theorem takeE_run : ∀ {n : Nat} {cs l : List AV} {K : List AV → Prop}, takeE n cs = some l → K l → takeK n cs K
  | 0, _, _, _, h, hk => by simp only [takeE, Option.some.injEq] at h; subst h; exact hk
  | n + 1, c :: r, l, K, h, hk => by
    simp only [takeE] at h
    split at h
    · rename_i l' hl; cases h; simp only [takeK, fv_eq]; exact takeE_run hl hk
    · cases h
  | _ + 1, [], _, _, h, _ => by simp [takeE] at h
def loadE (agg : Bool) (n : Nat) (cs : List AV) : Option AV := match agg with
  | true => match takeE n cs with
    | some l => some (.agg l)
    | none => none
  | false => match cs with
    | c :: _ => some c
    | [] => none
theorem loadE_run {agg : Bool} {n : Nat} {cs : List AV} {v : AV} {K : AV → Prop} (h : loadE agg n cs = some v) (hk : K v) : loadK agg n cs K := by
  unfold loadE at h
  cases agg with
  | true =>
    simp only [loadK] at h ⊢
    split at h
    · rename_i l hl; cases h; exact takeE_run hl hk
    · cases h
  | false =>
    simp only [loadK_false] at h ⊢
    split at h
    · cases h; simp only [fv_eq]; exact hk
    · cases h
def lputE : List AV → Nat → List AV → Option (List AV)
  | cs, 0, [] => some cs
  | _ :: cs, 0, v :: l => bif scal v then (match lputE cs 0 l with
    | some r => some (v :: r)
    | none => none) else none
  | c :: cs, off + 1, l => match lputE cs off l with
    | some r => some (c :: r)
    | none => none
  | [], 0, _ :: _ => none
  | [], _ + 1, _ => none
theorem lputE_run : ∀ {cs : List AV} {off : Nat} {l r : List AV} {K : List AV → Prop}, lputE cs off l = some r → K r → lputK cs off l K
  | [], 0, [], r, K, h, hk => by simp only [lputE, Option.some.injEq] at h; subst h; simpa [lputK] using hk
  | _ :: _, 0, [], r, K, h, hk => by simp only [lputE, Option.some.injEq] at h; subst h; simpa [lputK] using hk
  | _ :: cs, 0, v :: l, r, K, h, hk => by
    simp only [lputE] at h; simp only [lputK]
    cases hv : scal v <;> simp only [hv, cond_true, cond_false] at h ⊢
    · cases h
    · split at h
      · rename_i r' hr; cases h; exact lputE_run hr hk
      · cases h
  | c :: cs, off + 1, l, r, K, h, hk => by
    simp only [lputE] at h; simp only [lputK]
    split at h
    · rename_i r' hr; cases h; exact lputE_run hr hk
    · cases h
  | [], 0, _ :: _, _, _, h, _ => by simp [lputE] at h
  | [], _ + 1, _, _, _, h, _ => by simp [lputE] at h

def eqCellsE : List Sc → List AV → List AV → Option Bool
  | [], [], [] => some true
  | k :: ks, c :: cs, d :: ds => match eqOne k c d with
    | some q => match eqCellsE ks cs ds with
      | some r => some (q && r)
      | none => none
    | none => none
  | _, _, _ => none
theorem eqCellsE_run : ∀ {ks : List Sc} {cs ds : List AV} {r : Bool} {K : Bool → Prop}, eqCellsE ks cs ds = some r → K r → eqCells ks cs ds K
  | [], [], [], r, K, h, hk => by simp only [eqCellsE, Option.some.injEq] at h; subst h; exact hk
  | k :: ks, c :: cs, d :: ds, r, K, h, hk => by
    simp only [eqCellsE] at h; simp only [eqCells]
    split at h
    · rename_i q hq
      split at h
      · rename_i r' hr; cases h; rw [hq]; exact eqCellsE_run hr hk
      · cases h
    · cases h
  | [], [], _ :: _, _, _, h, _ => by simp [eqCellsE] at h
  | [], _ :: _, _, _, _, h, _ => by simp [eqCellsE] at h
  | _ :: _, [], _, _, _, h, _ => by simp [eqCellsE] at h
  | _ :: _, _ :: _, [], _, _, h, _ => by simp [eqCellsE] at h
def buildE (ev : AX → AV) : List (Nat × Nat × AX) → List AV → Option (List AV)
  | [], cs => some cs
  | (off, sz, x) :: r, cs => match cellsOf (ev x) with
    | some l => bif Nat.beq l.length sz then (match lputE cs off l with
      | some cs => buildE ev r cs
      | none => none) else none
    | none => none
theorem buildE_run {ev : AX → AV} : ∀ {ps : List (Nat × Nat × AX)} {cs r : List AV} {K : List AV → Prop}, buildE ev ps cs = some r → K r → buildK ev ps cs K
  | [], _, _, _, h, hk => by simp only [buildE, Option.some.injEq] at h; subst h; exact hk
  | (off, sz, x) :: ps, cs, r, K, h, hk => by
    simp only [buildE] at h; simp only [buildK]
    split at h
    · rename_i l hl
      cases hb : Nat.beq l.length sz <;> simp only [hb, cond_true, cond_false] at h
      · cases h
      · split at h
        · rename_i cs' hcs; simp only [hl, hb, cond_true]; exact lputE_run hcs (buildE_run h hk)
        · cases h
    · cases h
def optE (ev : AX → AV) (d : Int) (x : Option AX) : Option Int := match x with
  | none => some d
  | some x => match ev x with
    | .int _ i => some i
    | _ => none
theorem optE_run {ev : AX → AV} {d i : Int} {x : Option AX} {K : Int → Prop} (h : optE ev d x = some i) (hk : K i) : optI ev d x K := by
  unfold optE at h; unfold optI
  split at h
  · cases h; exact hk
  · split at h
    · rename_i hx; cases h; simp only [hx]; exact hk
    · cases h

def VOp.e (ev : AX → AV) : VOp → Option AV
  | .field agg off n x => match ev x with
    | .agg cs => loadE agg n (cs.drop off)
    | _ => none
  | .idx agg e len x i => match ev x, ev i with
    | .agg cs, .int _ i => if (0 ≤ i ∧ i < len) then loadE agg e (cs.drop (i.toNat * e)) else none
    | _, _ => none
  | .sidx x i => match ev x, ev i with
    | .str s, .int _ i => if (0 ≤ i ∧ i < s.size) then some (.int .u8 ((s.data.getD i.toNat 0).toNat : Nat)) else none
    | _, _ => none
  | .build zero parts => match buildE ev parts zero with
    | some cs => some (.agg cs)
    | none => none
  | .eqa neg ks x y => match ev x, ev y with
    | .agg cs, .agg ds => match eqCellsE ks cs ds with
      | some r => some (.bool (if neg then !r else r))
      | none => none
    | _, _ => none
  | .isnil p neg x y => match p, ev x, ev y with
    | false, .nils, .nils => some (.bool (!neg))
    | false, .slice _ _ _ _ _, .nils => some (.bool neg)
    | false, .dslice _ n _, .nils => if 0 < n then some (.bool neg) else none
    | true, .nilp, .nilp => some (.bool (!neg))
    | true, .ptr _ _, .nilp => some (.bool neg)
    | true, .dptr _, .nilp => some (.bool neg)
    | _, _, _ => none
  | .sub e x lo hi mx => match ev x with
    | .dslice cs len cap => match optE ev 0 lo, optE ev len hi with
      | some l, some h => match mx with
        | none => if (0 ≤ l ∧ l ≤ h ∧ h ≤ len) then some (.dslice ((cs.drop (l.toNat * e)).take ((h - l).toNat * e)) (h - l).toNat (cap.map (· - l.toNat))) else none
        | some mx => match ev mx with
          | .int _ m => if (0 ≤ l ∧ l ≤ h ∧ h ≤ m ∧ m ≤ len) then some (.dslice ((cs.drop (l.toNat * e)).take ((h - l).toNat * e)) (h - l).toNat (some (m - l).toNat)) else none
          | _ => none
      | _, _ => none
    | .nils => match optE ev 0 lo, optE ev 0 hi with
      | some l, some h => match mx with
        | none => if (l = 0 ∧ h = 0) then some .nils else none
        | some _ => none
      | _, _ => none
    | .slice k off len cap e' => match optE ev 0 lo, optE ev len hi with
      | some l, some h => match mx with
        | none => if e = e' then (if (0 ≤ l ∧ l < h ∧ h ≤ len) then some (.slice k (off + l.toNat * e) (h - l).toNat (cap.map (· - l.toNat)) e) else if (0 ≤ l ∧ l = h ∧ h ≤ len) then some (.dslice [] 0 none) else none) else none
        | some _ => none
      | _, _ => none
    | _ => none
  | .ssub x lo hi => match ev x with
    | .str s => match optE ev 0 lo, optE ev s.size hi with
      | some l, some h => if (0 ≤ l ∧ l ≤ h ∧ h ≤ s.size) then some (.str (s.extract l.toNat h.toNat)) else none
      | _, _ => none
    | _ => none
  | .s2a n x => match ev x with
    | .dslice cs len _ => if (0 < n ∧ n ≤ len) then some (.dptr cs) else none
    | .slice k off len _ _ => if n ≤ len then some (.ptr k off) else none
    | _ => none
theorem VOp.e_run {ev : AX → AV} {K : AV → Prop} {o : VOp} {v : AV} (h : o.e ev = some v) (hk : K v) : o.run ev K := by
  cases o <;> simp only [VOp.e, VOp.run] at h ⊢
  case field agg off n x =>
    generalize hevx : ev x = vx at h ⊢
    split at h
    · exact loadE_run h hk
    · cases h
  case idx agg e len x i =>
    generalize hevx : ev x = vx at h ⊢
    generalize hevi : ev i = vi at h ⊢
    split at h
    · split at h
      · exact ⟨‹_›, loadE_run h hk⟩
      · cases h
    · cases h
  case sidx x i =>
    generalize hevx : ev x = vx at h ⊢
    generalize hevi : ev i = vi at h ⊢
    split at h
    · split at h
      · cases h; exact ⟨‹_›, hk⟩
      · cases h
    · cases h
  case build zero parts =>
    split at h
    · rename_i cs hcs; cases h; exact buildE_run hcs hk
    · cases h
  case eqa neg ks x y =>
    generalize hevx : ev x = vx at h ⊢
    generalize hevy : ev y = vy at h ⊢
    split at h
    · split at h
      · rename_i r hr; cases h; exact eqCellsE_run hr hk
      · cases h
    · cases h
  case isnil p neg x y =>
    generalize hevx : ev x = vx at h ⊢
    generalize hevy : ev y = vy at h ⊢
    split at h <;> first | (cases h; exact hk) | (split at h <;> first | (cases h; exact ⟨‹_›, hk⟩) | cases h) | cases h
  case sub e x lo hi mx =>
    generalize hevx : ev x = vx at h ⊢
    split at h
    · split at h
      · rename_i l hh h1 h2
        refine optE_run h1 (optE_run h2 ?_)
        split at h
        · split at h
          · cases h; exact ⟨‹_›, hk⟩
          · cases h
        · split at h
          · rename_i hm
            split at h
            · cases h; simp only [hm]; exact ⟨‹_›, hk⟩
            · cases h
          · cases h
      · cases h
    · split at h
      · rename_i l hh h1 h2
        refine optE_run h1 (optE_run h2 ?_)
        split at h
        · split at h
          · cases h; exact ⟨‹_›, hk⟩
          · cases h
        · cases h
      · cases h
    · split at h
      · rename_i l hh h1 h2
        refine optE_run h1 (optE_run h2 ?_)
        split at h
        · split at h
          · rename_i he
            refine ⟨he, ?_⟩
            split at h
            · cases h; exact .inl ⟨‹_›, hk⟩
            · split at h
              · cases h; exact .inr ⟨‹_›, hk⟩
              · cases h
          · cases h
        · cases h
      · cases h
    · cases h
  case ssub x lo hi =>
    generalize hevx : ev x = vx at h ⊢
    split at h
    · split at h
      · rename_i l hh h1 h2
        refine optE_run h1 (optE_run h2 ?_)
        split at h
        · cases h; exact ⟨‹_›, hk⟩
        · cases h
      · cases h
    · cases h
  case s2a n x =>
    generalize hevx : ev x = vx at h ⊢
    split at h
    · split at h
      · cases h; exact ⟨‹_›, hk⟩
      · cases h
    · split at h
      · cases h; exact ⟨‹_›, hk⟩
      · cases h
    · cases h
end Go.Eng

namespace Go.Eng
open Go

variable [Globs]
/-! #### The heap and the frame of a run -/
structure EH where
  nx : Nat
  bs : BT AB
def EH.get (T : EH) (k : Nat) : AB := match T.bs.get k with
  | some b => b
  | none => .dead
def EH.nil : EH := ⟨0, .nil⟩
def EH.put (T : EH) (k : Nat) (b : AB) : Option EH := bif b.isIt then none else (match BT.set b 40 T.bs k with
  | some bs => some ⟨T.nx, bs⟩
  | none => none)
def EH.push (T : EH) (b : AB) : Option EH := bif b.isIt then none else (match BT.set b 40 T.bs T.nx with
  | some bs => forceN (T.nx + 1) fun n => some ⟨n, bs⟩
  | none => none)
def AB.noit : AB → Prop
  | .iter _ _ _ => False
  | _ => True
theorem isIt_of {b : AB} (h : b.noit) : b.isIt = false := by cases b <;> first | rfl | exact h.elim
theorem noit_of {b : AB} (h : b.isIt = false) : b.noit := by cases b <;> first | trivial | cases h
structure RepH (T : EH) (H : Heap) : Prop where
  nx : H.nx = T.nx
  get : H.get = T.get
  noit : ∀ j, (H.get j).noit
theorem RepH.free {T : EH} {H : Heap} (R : RepH T H) (p n : Nat) : noIter T.get p n = true := noIter_of (fun j k l c e => by have := R.noit j; rw [R.get, e] at this; exact this) n
theorem RepH.nil : RepH EH.nil Heap.nil := ⟨rfl, rfl, fun _ => trivial⟩
theorem RepH.put {T T' : EH} {H : Heap} {k : Nat} {b : AB} (h : T.put k b = some T') (R : RepH T H) : RepH T' (H.set k b) := by
  unfold EH.put at h
  cases hb : b.isIt <;> simp only [hb, cond_true, cond_false, reduceCtorEq] at h
  split at h
  · rename_i bs hbs
    cases h
    refine ⟨R.nx, funext fun j => ?_, fun j => by rw [Heap.get_set]; split; exact noit_of hb; exact R.noit j⟩
    rw [Heap.get_set, R.get]
    simp only [EH.get, BT.get_set b hbs j]
    by_cases e : k = j <;> simp [e]
  · cases h
theorem RepH.push {T T' : EH} {H : Heap} {b : AB} (h : T.push b = some T') (R : RepH T H) : RepH T' (H.push b) := by
  unfold EH.push at h
  cases hb : b.isIt <;> simp only [hb, cond_true, cond_false, reduceCtorEq] at h
  split at h
  · rename_i bs hbs
    rw [forceN_eq] at h; cases h
    refine ⟨by simp [Heap.push, R.nx], funext fun j => ?_, fun j => by rw [Heap.get_push]; split; exact noit_of hb; exact R.noit j⟩
    rw [Heap.get_push, R.get, R.nx]
    simp only [EH.get, BT.get_set b hbs j]
    by_cases e : T.nx = j <;> simp [e]
  · cases h
structure RepF (F : BT AV) (fr : Fr) : Prop where
  get : ∀ t, look fr t = (F.get t).getD .any
def AX.eF (F : BT AV) : AX → AV
  | .t n => match F.get n with
    | some v => v
    | none => .any
  | .c v => v
  | .g n => .dptr (globOf n)
theorem RepF.ev {F : BT AV} {fr : Fr} (R : RepF F fr) : AX.ev fr = AX.eF F := by
  funext x
  cases x with
  | t n => simp only [AX.ev, AX.eF, R.get]; cases F.get n <;> rfl
  | c v => rfl
  | g n => rfl
def putE (F : BT AV) (d : Option Nat) (v : AV) : Option (BT AV) := match d with
  | none => some F
  | some t => fvE v fun v => BT.set v 24 F t
theorem RepF.put {F F' : BT AV} {fr : Fr} {d : Option Nat} {v : AV} (h : putE F d v = some F') (R : RepF F fr) : RepF F' (put fr d v) := by
  cases d with
  | none => simp only [putE, Option.some.injEq] at h; subst h; exact R
  | some t =>
    simp only [putE, fvE_eq] at h
    refine ⟨fun u => ?_⟩
    rw [BT.get_set v h u]
    simp only [Eng.put, look]
    by_cases e : t = u
    · subst e; simp
    · rw [beq_false e, if_neg e]; exact R.get u
theorem RepF.know {F : BT AV} {fr : Fr} {s : Nat} {b : Bool} (R : RepF F fr) (h : look fr s = .bool b) : RepF F ((s, .bool b) :: fr) :=
  ⟨fun u => by
    simp only [look]
    by_cases e : s = u
    · subst e; rw [← R.get, h]; simp
    · rw [beq_false e]; exact R.get u⟩

/-! #### Operations on the heap -/
def HOp.e (ev : AX → AV) (T : EH) : HOp → Option (AV × EH)
  | .load agg n x => match ev x with
    | .dptr cs => match loadE agg n cs with
      | some v => some (v, T)
      | none => none
    | .ptr k off => match T.get k with
      | .cells cs => match loadE agg n (cs.drop off) with
        | some v => some (v, T)
        | none => none
      | _ => none
    | _ => none
  | .alloc zero => match T.push (.cells zero) with
    | some T' => some (.ptr T.nx 0, T')
    | none => none
  | .box x => match cellsOf (ev x) with
    | some l => match T.push (.cells l) with
      | some T' => some (.ptr T.nx 0, T')
      | none => none
    | none => none
  | .store n p x => match ev p with
    | .ptr k off => match T.get k with
      | .cells cs => match cellsOf (ev x) with
        | some l => bif Nat.beq l.length n then (match lputE cs off l with
          | some cs' => match T.put k (.cells cs') with
            | some T' => some (.any, T')
            | none => none
          | none => none) else none
        | none => none
      | _ => none
    | _ => none
theorem HOp.e_run {ev : AX → AV} {T T' : EH} {H : Heap} {o : HOp} {v : AV} (h : o.e ev T = some (v, T')) (R : RepH T H) : ∃ H', RepH T' H' ∧ ∀ K : AV → Heap → Prop, K v H' → o.run ev H K := by
  cases o <;> simp only [HOp.e, HOp.run, R.get, pushK_eq, setK_eq] at h ⊢
  case load agg n x =>
    generalize ev x = vx at h ⊢
    split at h
    · split at h
      · rename_i u hu; cases h; exact ⟨H, R, fun K hk => loadE_run hu hk⟩
      · cases h
    · split at h
      · rename_i cs hcs
        split at h
        · rename_i u hu; cases h; refine ⟨H, R, fun K hk => ?_⟩
          simp only [hcs]; exact loadE_run hu hk
        · cases h
      · cases h
    · cases h
  case alloc zero =>
    split at h
    · rename_i T2 hT; cases h
      exact ⟨_, R.push hT, fun K hk => by rw [R.nx]; exact hk⟩
    · cases h
  case box x =>
    split at h
    · rename_i l hl
      split at h
      · rename_i T2 hT; cases h
        exact ⟨_, R.push hT, fun K hk => by simp only [hl]; rw [R.nx]; exact hk⟩
      · cases h
    · cases h
  case store n p x =>
    generalize ev p = vp at h ⊢
    split at h
    · split at h
      · rename_i cs hcs
        split at h
        · rename_i l hl
          cases hb : Nat.beq l.length n <;> simp only [hb, cond_true, cond_false] at h
          · cases h
          · split at h
            · rename_i cs' hp
              split at h
              · rename_i T2 hT; cases h
                exact ⟨_, R.put hT, fun K hk => by simp only [hcs, hl, hb, cond_true]; exact lputE_run hp hk⟩
              · cases h
            · cases h
        · cases h
      · cases h
    · cases h

def mapE0 (η : Nat → AB) (m : AV) : Option (Option Nat × List (AV × AV)) := match m with
  | .nilm => some (none, [])
  | .map p => match η p with
    | .map es => some (some p, es)
    | _ => none
  | _ => none
theorem mapE0_run {η : Nat → AB} {m : AV} {p : Option Nat} {es : List (AV × AV)} {K : Option Nat → List (AV × AV) → Prop} (h : mapE0 η m = some (p, es)) (hk : K p es) : mapN η m K := by
  unfold mapE0 at h; unfold mapN
  split at h
  · cases h; exact hk
  · split at h
    · rename_i hes; cases h; simp only [hes]; exact hk
    · cases h
  · cases h
def srcE (η : Nat → AB) (e : Nat) (x : AV) : Option (List AV × Nat) := match x with
  | .dslice cs n _ => if n * e ≤ cs.length then some (cs.take (n * e), n) else none
  | .nils => some ([], 0)
  | .slice k off n _ _ => match η k with
    | .cells cs => if off + n * e ≤ cs.length then some ((cs.drop off).take (n * e), n) else none
    | _ => none
  | _ => none
theorem srcE_run {η : Nat → AB} {e n : Nat} {x : AV} {l : List AV} {K : List AV → Nat → Prop} (h : srcE η e x = some (l, n)) (hk : K l n) : srcK η e x K := by
  unfold srcE at h; unfold srcK
  split at h
  · split at h
    · cases h; exact ⟨‹_›, hk⟩
    · cases h
  · cases h; exact hk
  · split at h
    · split at h
      · rename_i hcs _; cases h; simp only [hcs]; exact ⟨‹_›, hk⟩
      · cases h
    · cases h
  · cases h
instance (n bytes : Nat) : Decidable (fits n bytes) := by unfold fits; infer_instance
theorem all_scal {l : List AV} (h : l.all scal = true) : ∀ c ∈ l, scal c = true := by simpa using h
def MOp.e (ev : AX → AV) (T : EH) : MOp → Option (AV × EH)
  | .mk => match T.push (.map []) with
    | some T' => some (.map T.nx, T')
    | none => none
  | .get ok kk zero m k => match mapE0 T.get (ev m) with
    | some (_, es) => bif keyOk kk (ev k) then (match mfind kk (ev k) es with
      | some r => some (mval ok zero r, T)
      | none => none) else none
    | none => none
  | .set kk m k v => match mapE0 T.get (ev m) with
    | some (some p, es) => bif keyOk kk (ev k) && noLoc (ev v) then (fvE (ev v) fun v => match mput kk (ev k) v es with
      | some es' => match T.put p (.map es') with
        | some T' => some (.any, T')
        | none => none
      | none => none) else none
    | _ => none
  | .del kk m k => match mapE0 T.get (ev m) with
    | some (some p, es) => bif keyOk kk (ev k) then (match mdel kk (ev k) es with
      | some es' => match T.put p (.map es') with
        | some T' => some (.tuple [], T')
        | none => none
      | none => none) else none
    | _ => none
  | .len m => match mapE0 T.get (ev m) with
    | some (_, es) => some (.int .i64 es.length, T)
    | none => none
  | .range _ => none
  | .next _ => none
  | .entry _ => none
  | .delw _ _ _ _ => none
  | .copyS d s => match ev d with
    | .slice k off n _ e' => match T.get k with
      | .cells cs => match srcE T.get 1 (strD (ev s)) with
        | some (ds, m) => if e' = 1 then (bif Nat.ble m n then (match lputE cs off ds with
          | some cs' => match T.put k (.cells cs') with
            | some T' => some (.int .i64 m, T')
            | none => none
          | none => none) else (match lputE cs off (ds.take (n * 1)) with
          | some cs' => match T.put k (.cells cs') with
            | some T' => some (.int .i64 n, T')
            | none => none
          | none => none)) else none
        | none => none
      | _ => none
    | _ => none
  | .copy e d s => match ev d with
    | .slice k off n _ e' => match T.get k with
      | .cells cs => match srcE T.get e (ev s) with
        | some (ds, m) => if e' = e then (bif Nat.ble m n then (match lputE cs off ds with
          | some cs' => match T.put k (.cells cs') with
            | some T' => some (.int .i64 m, T')
            | none => none
          | none => none) else (match lputE cs off (ds.take (n * e)) with
          | some cs' => match T.put k (.cells cs') with
            | some T' => some (.int .i64 n, T')
            | none => none
          | none => none)) else none
        | none => none
      | _ => none
    | _ => none
theorem MOp.e_run {ev : AX → AV} {T T' : EH} {H : Heap} {o : MOp} {v : AV} (h : o.e ev T = some (v, T')) (R : RepH T H) : ∃ H', RepH T' H' ∧ ∀ K : AV → Heap → Prop, K v H' → o.run ev H K := by
  cases o <;> simp only [MOp.e, MOp.run, mkMapK_eq, mapK, setK_eq, R.get, fvE_eq, R.free, Bool.and_true] at h ⊢
  case mk =>
    split at h
    · rename_i T2 hT; cases h
      exact ⟨_, R.push hT, fun K hk => by rw [R.nx]; exact hk⟩
    · cases h
  case get ok kk zero m k =>
    split at h
    · rename_i p es hm
      cases hb : keyOk kk (ev k) <;> simp only [hb, cond_true, cond_false] at h
      · cases h
      · split at h
        · rename_i r hr; cases h
          exact ⟨H, R, fun K hk => mapE0_run hm (by simp only [cond_true]; exact ⟨r, hr, hk⟩)⟩
        · cases h
    · cases h
  case set kk m k x =>
    split at h
    · rename_i p es hm
      cases hb : (keyOk kk (ev k) && noLoc (ev x)) <;> simp only [hb, cond_true, cond_false] at h
      · cases h
      · split at h
        · rename_i es' hr
          split at h
          · rename_i T2 hT; cases h
            exact ⟨_, R.put hT, fun K hk => mapE0_run hm (by simp only [cond_true]; exact ⟨es', hr, hk⟩)⟩
          · cases h
        · cases h
    · cases h
  case del kk m k =>
    split at h
    · rename_i p es hm
      cases hb : keyOk kk (ev k) <;> simp only [hb, cond_true, cond_false] at h
      · cases h
      · split at h
        · rename_i es' hr
          split at h
          · rename_i T2 hT; cases h
            exact ⟨_, R.put hT, fun K hk => mapE0_run hm (by simp only [cond_true]; exact ⟨es', hr, hk⟩)⟩
          · cases h
        · cases h
    · cases h
  case range m => cases h
  case next m => cases h
  case entry m => cases h
  case delw _ _ _ _ => cases h
  case copy e d s =>
    generalize ev d = vd at h ⊢
    split at h
    · rename_i k off n cap e'
      split at h
      · rename_i cs hcs
        split at h
        · rename_i ds m hs
          split at h
          · rename_i he
            cases hb : Nat.ble m n <;> simp only [hb, cond_true, cond_false] at h
            · split at h
              · rename_i cs' hl
                split at h
                · rename_i T2 hT; cases h
                  refine ⟨_, R.put hT, fun K hk => ?_⟩
                  simp only [hcs]
                  exact srcE_run hs ⟨he, .ofF (decide_eq_false (fun e => by have := Nat.ble_eq_true_of_le e; rw [this] at hb; cases hb)) (by unfold cpK; exact lputE_run hl (by rw [setK_eq]; exact hk))⟩
                · cases h
              · cases h
            · split at h
              · rename_i cs' hl
                split at h
                · rename_i T2 hT; cases h
                  refine ⟨_, R.put hT, fun K hk => ?_⟩
                  simp only [hcs]
                  exact srcE_run hs ⟨he, .ofT (decide_eq_true (Nat.le_of_ble_eq_true hb)) (by unfold cpK; exact lputE_run hl (by rw [setK_eq]; exact hk))⟩
                · cases h
              · cases h
          · cases h
        · cases h
      · cases h
    · cases h
  case copyS d s =>
    generalize ev d = vd at h ⊢
    split at h
    · rename_i k off n cap e'
      split at h
      · rename_i cs hcs
        split at h
        · rename_i ds m hs
          split at h
          · rename_i he
            cases hb : Nat.ble m n <;> simp only [hb, cond_true, cond_false] at h
            · split at h
              · rename_i cs' hl
                split at h
                · rename_i T2 hT; cases h
                  refine ⟨_, R.put hT, fun K hk => ?_⟩
                  simp only [hcs]
                  exact srcE_run hs ⟨he, .ofF (decide_eq_false (fun e => by have := Nat.ble_eq_true_of_le e; rw [this] at hb; cases hb)) (by unfold cpK; exact lputE_run hl (by rw [setK_eq]; exact hk))⟩
                · cases h
              · cases h
            · split at h
              · rename_i cs' hl
                split at h
                · rename_i T2 hT; cases h
                  refine ⟨_, R.put hT, fun K hk => ?_⟩
                  simp only [hcs]
                  exact srcE_run hs ⟨he, .ofT (decide_eq_true (Nat.le_of_ble_eq_true hb)) (by unfold cpK; exact lputE_run hl (by rw [setK_eq]; exact hk))⟩
                · cases h
              · cases h
          · cases h
        · cases h
      · cases h
    · cases h
  case len m =>
    split at h
    · rename_i p es hm; cases h
      exact ⟨H, R, fun K hk => mapE0_run hm hk⟩
    · cases h

def DOp.e (ev : AX → AV) (η : Nat → AB) : DOp → Option AV
  | .bslice e len zero parts => match buildE ev (parts.map fun x => (x.1, e, x.2)) (rep zero len) with
    | some cs => bif noLocB cs then some (.dslice cs len (some len)) else none
    | none => none
  | .append e bytes s x => match ev s, ev x with
    | .dslice cs len cap, .dslice ds n _ => if cap = some len ∧ len * e ≤ cs.length ∧ n * e ≤ ds.length ∧ fits (len + n) bytes ∧ (ds.take (n * e)).all scal = true then some (.dslice (cs.take (len * e) ++ ds.take (n * e)) (len + n) none) else none
    | .dslice cs len cap, .nils => if cap = some len then some (.dslice cs len none) else none
    | .nils, .dslice ds n _ => if n * e ≤ ds.length ∧ fits n bytes ∧ (ds.take (n * e)).all scal = true then some (.dslice (ds.take (n * e)) n none) else none
    | _, _ => none
  | .asub e n x lo hi => match ev x with
    | .ptr k off => match η k with
      | .cells cs => match optE ev 0 lo, optE ev n hi with
        | some l, some h => if 0 ≤ l ∧ l < n ∧ l ≤ h ∧ h ≤ n ∧ off + n * e ≤ cs.length then some (.slice k (off + l.toNat * e) (h - l).toNat (some (n - l.toNat)) e) else none
        | _, _ => none
      | _ => none
    | .dptr cs => match optE ev 0 lo, optE ev n hi with
      | some l, some h => if 0 ≤ l ∧ l ≤ h ∧ h ≤ n then some (.dslice ((cs.drop (l.toNat * e)).take ((h - l).toNat * e)) (h - l).toNat (some (n - l.toNat))) else none
      | _, _ => none
    | _ => none
  | .sl2s x => match srcE η 1 (ev x) with
    | some (ds, _) => match bytesOf ds with
      | some l => some (.str (toBytes l))
      | none => none
    | none => none
theorem DOp.e_run {ev : AX → AV} {η : Nat → AB} {o : DOp} {v : AV} {K : AV → Prop} (h : o.e ev η = some v) (hk : K v) : o.run ev η K := by
  cases o <;> simp only [DOp.e, DOp.run] at h ⊢
  case bslice e len zero parts =>
    split at h
    · rename_i cs hcs
      cases hb : noLocB cs <;> simp only [hb, cond_true, cond_false] at h
      · cases h
      · cases h; exact buildE_run hcs (by simp only [hb, cond_true]; exact hk)
    · cases h
  case append e bytes s x =>
    generalize ev s = vs at h ⊢
    generalize ev x = vx at h ⊢
    split at h
    · split at h
      · rename_i hp; cases h; exact ⟨⟨hp.1, hp.2.1, hp.2.2.1, hp.2.2.2.1, all_scal hp.2.2.2.2⟩, hk⟩
      · cases h
    · split at h
      · cases h; exact ⟨‹_›, hk⟩
      · cases h
    · split at h
      · rename_i hp; cases h; exact ⟨⟨hp.1, hp.2.1, all_scal hp.2.2⟩, hk⟩
      · cases h
    · cases h
  case asub e n x lo hi =>
    generalize hev : ev x = vx at h ⊢
    split at h
    · split at h
      · rename_i cs hcs
        split at h
        · rename_i l hh h1 h2
          split at h
          · cases h; simp only [hcs]; exact optE_run h1 (optE_run h2 ⟨‹_›, hk⟩)
          · cases h
        · cases h
      · cases h
    · split at h
      · rename_i l hh h1 h2
        split at h
        · cases h; exact optE_run h1 (optE_run h2 ⟨‹_›, hk⟩)
        · cases h
      · cases h
    · cases h
  case sl2s x =>
    split at h
    · rename_i ds n hs
      split at h
      · rename_i l hl; cases h; exact srcE_run hs ⟨l, hl, hk⟩
      · cases h
    · cases h

def appE (cur : Nat → AB) (p e bytes : Nat) (sv xv : AV) : Option (AV × AB × Option Nat) := match srcE cur e xv with
  | some (ds, n) => match sv with
    | .slice k off len _ e' => match cur k with
      | .cells cs => if e' = e ∧ off = 0 ∧ cs.length = len * e ∧ fits (len + n) bytes ∧ ds.all scal = true then some (.slice p 0 (len + n) none e, .cells (cs ++ ds), some k) else none
      | _ => none
    | .dslice cs len cap => bif Nat.beq n 0 then some (.dslice cs len cap, .dead, none) else if cap = some len ∧ len * e ≤ cs.length ∧ fits (len + n) bytes ∧ ds.all scal = true then some (.slice p 0 (len + n) none e, .cells (cs.take (len * e) ++ ds), none) else none
    | .nils => bif Nat.beq n 0 then some (.nils, .dead, none) else if fits n bytes ∧ ds.all scal = true then some (.slice p 0 n none e, .cells ds, none) else none
    | _ => none
  | none => none
def LOp.e (ev : AX → AV) (cur : Nat → AB) (p : Nat) : LOp → Option (AV × AB × Option Nat)
  | .make e bytes zero n => match ev n with
    | .int _ i => if 0 ≤ i ∧ (bytes : Int) * i ≤ 281474976710656 ∧ i ≤ 9223372036854775807 then some (.slice p 0 i.toNat (some i.toNat) e, .cells (rep zero i.toNat), none) else none
    | _ => none
  | .bslice e len zero parts => match buildE ev (parts.map fun x => (x.1, e, x.2)) (rep zero len) with
    | some cs => some (.slice p 0 len (some len) e, .cells cs, none)
    | none => none
  | .append e bytes s x => appE cur p e bytes (ev s) (ev x)
  | .appendS bytes s x => appE cur p 1 bytes (ev s) (strD (ev x))
  | .appendF e bytes s x => match ev s with
    | .slice k off len (some c) e' => match cur k with
      | .cells cs => match srcE cur e (ev x) with
        | some (ds, n) => if e' = e ∧ c = len ∧ 0 < n ∧ off + len * e ≤ cs.length ∧ fits (len + n) bytes ∧ ds.all scal = true then some (.slice p 0 (len + n) none e, .cells ((cs.drop off).take (len * e) ++ ds), none) else none
        | none => none
      | _ => none
    | _ => none
theorem appE_run {cur : Nat → AB} {p e bytes : Nat} {sv xv : AV} {v : AV} {ab : AB} {kl : Option Nat} {K : AV → AB → Option Nat → Prop} (h : appE cur p e bytes sv xv = some (v, ab, kl)) (hk : K v ab kl) : appN cur cur p e bytes sv xv K := by
  unfold appE at h
  split at h
  · rename_i ds n hsrc
    unfold appN
    split at h
    · split at h
      · rename_i cs hcs
        split at h
        · rename_i hp; cases h
          simp only [appK, hcs]
          exact srcE_run hsrc ⟨⟨hp.1, hp.2.1, hp.2.2.1, hp.2.2.2.1, all_scal hp.2.2.2.2⟩, hk⟩
        · cases h
      · cases h
    · cases hb : Nat.beq n 0 <;> simp only [hb, cond_true, cond_false] at h
      · split at h
        · rename_i hp; cases h
          exact srcE_run hsrc (Branch.ofF (decide_eq_false (fun e => by subst e; cases hb)) ⟨⟨hp.1, hp.2.1, hp.2.2.1, all_scal hp.2.2.2⟩, hk⟩)
        · cases h
      · cases h
        exact srcE_run hsrc (Branch.ofT (decide_eq_true (Nat.eq_of_beq_eq_true hb)) hk)
    · cases hb : Nat.beq n 0 <;> simp only [hb, cond_true, cond_false] at h
      · split at h
        · rename_i hp; cases h
          exact srcE_run hsrc (Branch.ofF (decide_eq_false (fun e => by subst e; cases hb)) ⟨⟨hp.1, all_scal hp.2⟩, hk⟩)
        · cases h
      · cases h
        exact srcE_run hsrc (Branch.ofT (decide_eq_true (Nat.eq_of_beq_eq_true hb)) hk)
    · cases h
  · cases h
theorem LOp.e_run {ev : AX → AV} {cur : Nat → AB} {p : Nat} {o : LOp} {v : AV} {ab : AB} {kl : Option Nat} {K : AV → AB → Option Nat → Prop} (h : o.e ev cur p = some (v, ab, kl)) (hk : K v ab kl) : o.run ev cur cur p K := by
  cases o <;> simp only [LOp.e, LOp.run] at h ⊢
  case make e bytes zero n =>
    generalize ev n = vn at h ⊢
    split at h
    · rename_i k i
      split at h
      · cases h; exact ⟨‹_›, hk⟩
      · cases h
    · cases h
  case bslice e len zero parts =>
    split at h
    · rename_i cs hcs; cases h; exact buildE_run hcs hk
    · cases h
  case append e bytes s x => exact appE_run h hk
  case appendS bytes s x => exact appE_run h hk
  case appendF e bytes s x =>
    unfold appF
    split at h
    · rename_i k off len c e' hs
      split at h
      · rename_i cs hcs
        split at h
        · rename_i ds n hsrc
          split at h
          · rename_i hp; cases h
            simp only [hs, hcs]
            exact srcE_run hsrc ⟨⟨hp.1, hp.2.1, hp.2.2.1, hp.2.2.2.1, hp.2.2.2.2.1, all_scal hp.2.2.2.2.2⟩, hk⟩
          · cases h
        · cases h
      · cases h
    · cases h
end Go.Eng

