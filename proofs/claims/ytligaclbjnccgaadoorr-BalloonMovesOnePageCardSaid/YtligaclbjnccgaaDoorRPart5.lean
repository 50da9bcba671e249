/- Part of a proof about the given program: lemmas that the other parts use. -/
import Derived.Test.YtligaclbjnccgaaDoorRPart4
import Derived.Test.YtligaclbjnccgaaDoorRProg
import Derived.KernelRfl

set_option linter.all false
set_option linter.unusedSimpArgs false
set_option linter.unusedVariables false
set_option maxRecDepth 100000
namespace Go.Proofs
open Go Go.Eng
/-- (*simulacrum/disk.Disk).Read -/
def ac40 : AC := (.seq (.reg [⟨some 4, .h (.alloc [(.int .u8 0), (.int .u8 0), (.int .u8 0), (.int .u8 0), (.int .u8 0), (.int .u8 0), (.int .u8 0), (.int .u8 0), (.int .u8 0), (.int .u8 0), (.int .u8 0), (.int .u8 0), (.int .u8 0), (.int .u8 0), (.int .u8 0), (.int .u8 0), (.int .u8 0), (.int .u8 0), (.int .u8 0), (.int .u8 0), (.int .u8 0), (.int .u8 0), (.int .u8 0), (.int .u8 0), (.int .u8 0), (.int .u8 0), (.int .u8 0), (.int .u8 0), (.int .u8 0), (.int .u8 0), (.int .u8 0), (.int .u8 0), (.int .u8 0), (.int .u8 0), (.int .u8 0), (.int .u8 0), (.int .u8 0), (.int .u8 0), (.int .u8 0), (.int .u8 0), (.int .u8 0), (.int .u8 0), (.int .u8 0), (.int .u8 0), (.int .u8 0), (.int .u8 0), (.int .u8 0), (.int .u8 0), (.int .u8 0), (.int .u8 0), (.int .u8 0), (.int .u8 0), (.int .u8 0), (.int .u8 0), (.int .u8 0), (.int .u8 0), (.int .u8 0), (.int .u8 0), (.int .u8 0), (.int .u8 0), (.int .u8 0), (.int .u8 0), (.int .u8 0), (.int .u8 0)]), none⟩,
    ⟨some 5, .p (.mov (.c (.int .i64 0))), none⟩])
  (.seq (.seq (.reg [⟨some 8, .p (.mov (.t 0)), none⟩,
    ⟨some 9, .p (.mov (.t 1)), none⟩,
    ⟨some 10, .call 39 [(.t 8), (.t 9)], none⟩,
    ⟨some 6, .p (.mov (.t 10)), none⟩])
  (.seq (.reg [⟨some 11, .p (.mov (.t 6)), none⟩,
    ⟨some 12, .p (.bin .neq (.t 11) (.c (.int .i64 0))), none⟩])
  (.cond (.t 12) (.seq (.reg [⟨some 13, .v (.build [(.int .u8 0), (.int .u8 0), (.int .u8 0), (.int .u8 0), (.int .u8 0), (.int .u8 0), (.int .u8 0), (.int .u8 0), (.int .u8 0), (.int .u8 0), (.int .u8 0), (.int .u8 0), (.int .u8 0), (.int .u8 0), (.int .u8 0), (.int .u8 0), (.int .u8 0), (.int .u8 0), (.int .u8 0), (.int .u8 0), (.int .u8 0), (.int .u8 0), (.int .u8 0), (.int .u8 0), (.int .u8 0), (.int .u8 0), (.int .u8 0), (.int .u8 0), (.int .u8 0), (.int .u8 0), (.int .u8 0), (.int .u8 0), (.int .u8 0), (.int .u8 0), (.int .u8 0), (.int .u8 0), (.int .u8 0), (.int .u8 0), (.int .u8 0), (.int .u8 0), (.int .u8 0), (.int .u8 0), (.int .u8 0), (.int .u8 0), (.int .u8 0), (.int .u8 0), (.int .u8 0), (.int .u8 0), (.int .u8 0), (.int .u8 0), (.int .u8 0), (.int .u8 0), (.int .u8 0), (.int .u8 0), (.int .u8 0), (.int .u8 0), (.int .u8 0), (.int .u8 0), (.int .u8 0), (.int .u8 0), (.int .u8 0), (.int .u8 0), (.int .u8 0), (.int .u8 0)] []), none⟩,
    ⟨some 14, .p (.mov (.t 6)), none⟩,
    ⟨none, .h (.store 64 (.t 4) (.t 13)), none⟩,
    ⟨some 5, .p (.mov (.t 14)), none⟩])
  .ret) .skip)))
  (.seq (.seq (.reg [⟨some 15, .p (.mov (.t 0)), none⟩,
    ⟨some 16, .p (.nilchk (.t 15)), none⟩,
    ⟨some 17, .p (.fieldA 1 (.t 16)), none⟩,
    ⟨some 18, .h (.load false 1 (.t 17)), none⟩,
    ⟨some 19, .p (.mov (.t 1)), none⟩,
    ⟨some 20, .m (.get false (.c (.i .i64)) .nils (.t 18) (.t 19)), none⟩,
    ⟨some 7, .p (.mov (.t 20)), none⟩])
  (.seq (.reg [⟨some 21, .p (.mov (.t 7)), none⟩,
    ⟨some 22, .p (.len false (.t 21)), none⟩,
    ⟨some 23, .p (.bin .gtr (.t 22) (.c (.int .i64 0))), none⟩])
  (.cond (.t 23) (.seq (.reg [⟨some 24, .p (.mov (.t 7)), none⟩,
    ⟨some 25, .p (.mov (.t 7)), none⟩,
    ⟨some 26, .p (.len false (.t 25)), none⟩,
    ⟨some 27, .p (.bin .sub (.t 26) (.c (.int .i64 1))), none⟩,
    ⟨some 28, .p (.idxA 64 none (.t 24) (.t 27)), none⟩,
    ⟨some 29, .h (.load true 64 (.t 28)), none⟩,
    ⟨none, .h (.store 64 (.t 4) (.t 29)), none⟩,
    ⟨some 5, .p (.mov (.c (.int .i64 0))), none⟩])
  .ret) .skip)))
  (.seq (.seq (.reg [⟨some 30, .p (.mov (.t 0)), none⟩,
    ⟨some 31, .p (.nilchk (.t 30)), none⟩,
    ⟨some 32, .p (.fieldA 0 (.t 31)), none⟩,
    ⟨some 33, .h (.load false 1 (.t 32)), none⟩,
    ⟨some 34, .p (.mov (.t 1)), none⟩,
    ⟨some 35, .p (.idxA 65 none (.t 33) (.t 34)), none⟩,
    ⟨some 36, .p (.fieldA 64 (.t 35)), none⟩,
    ⟨some 37, .h (.load false 1 (.t 36)), none⟩])
  (.cond (.t 37) (.seq (.reg [⟨some 38, .v (.build [(.int .u8 0), (.int .u8 0), (.int .u8 0), (.int .u8 0), (.int .u8 0), (.int .u8 0), (.int .u8 0), (.int .u8 0), (.int .u8 0), (.int .u8 0), (.int .u8 0), (.int .u8 0), (.int .u8 0), (.int .u8 0), (.int .u8 0), (.int .u8 0), (.int .u8 0), (.int .u8 0), (.int .u8 0), (.int .u8 0), (.int .u8 0), (.int .u8 0), (.int .u8 0), (.int .u8 0), (.int .u8 0), (.int .u8 0), (.int .u8 0), (.int .u8 0), (.int .u8 0), (.int .u8 0), (.int .u8 0), (.int .u8 0), (.int .u8 0), (.int .u8 0), (.int .u8 0), (.int .u8 0), (.int .u8 0), (.int .u8 0), (.int .u8 0), (.int .u8 0), (.int .u8 0), (.int .u8 0), (.int .u8 0), (.int .u8 0), (.int .u8 0), (.int .u8 0), (.int .u8 0), (.int .u8 0), (.int .u8 0), (.int .u8 0), (.int .u8 0), (.int .u8 0), (.int .u8 0), (.int .u8 0), (.int .u8 0), (.int .u8 0), (.int .u8 0), (.int .u8 0), (.int .u8 0), (.int .u8 0), (.int .u8 0), (.int .u8 0), (.int .u8 0), (.int .u8 0)] []), none⟩,
    ⟨none, .h (.store 64 (.t 4) (.t 38)), none⟩,
    ⟨some 5, .p (.mov (.c (.int .i64 221))), none⟩])
  .ret) .skip))
  (.seq (.reg [⟨some 39, .p (.mov (.t 0)), none⟩,
    ⟨some 40, .p (.nilchk (.t 39)), none⟩,
    ⟨some 41, .p (.fieldA 0 (.t 40)), none⟩,
    ⟨some 42, .h (.load false 1 (.t 41)), none⟩,
    ⟨some 43, .p (.mov (.t 1)), none⟩,
    ⟨some 44, .p (.idxA 65 none (.t 42) (.t 43)), none⟩,
    ⟨some 45, .p (.fieldA 0 (.t 44)), none⟩,
    ⟨some 46, .h (.load true 64 (.t 45)), none⟩,
    ⟨none, .h (.store 64 (.t 4) (.t 46)), none⟩,
    ⟨some 5, .p (.mov (.c (.int .i64 0))), none⟩])
  .ret)))))
def rs40 : List AR := [.cell 4 true 64, .tmp 5]
theorem ok40 : okF Tryd.prog 40 47 ac40 rs40 = true := by kernel_rfl
/-- (*simulacrum/disk.Disk).Size -/
def ac42 : AC := (.seq (.reg [⟨some 2, .p (.mov (.c (.int .i64 0))), none⟩])
  (.seq (.reg [⟨some 3, .p (.mov (.t 0)), none⟩,
    ⟨some 4, .p (.nilchk (.t 3)), none⟩,
    ⟨some 5, .p (.fieldA 0 (.t 4)), none⟩,
    ⟨some 6, .h (.load false 1 (.t 5)), none⟩,
    ⟨some 7, .p (.len false (.t 6)), none⟩,
    ⟨some 2, .p (.mov (.t 7)), none⟩])
  .ret))
def rs42 : List AR := [.tmp 2]
theorem ok42 : okF Tryd.prog 42 8 ac42 rs42 = true := by kernel_rfl
/-- math/bits.Mul -/
def ac43 : AC := (.seq (.reg [⟨some 4, .p (.mov (.c (.int .u64 0))), none⟩,
    ⟨some 5, .p (.mov (.c (.int .u64 0))), none⟩])
  (.seq (.cond (.c (.bool false)) (.seq (.reg [⟨some 11, .p (.mov (.t 0)), none⟩,
    ⟨some 12, .p (.convw .u32 (.t 11)), none⟩,
    ⟨some 13, .p (.mov (.t 1)), none⟩,
    ⟨some 14, .p (.convw .u32 (.t 13)), none⟩,
    ⟨some 15, .call 49 [(.t 12), (.t 14)], none⟩,
    ⟨some 10, .p (.mov (.t 15)), none⟩,
    ⟨some 16, .p (.extract 0 (.t 10)), none⟩,
    ⟨some 17, .p (.extract 1 (.t 10)), none⟩,
    ⟨some 6, .p (.mov (.t 16)), none⟩,
    ⟨some 7, .p (.mov (.t 17)), none⟩])
  (.seq (.reg [⟨some 18, .p (.mov (.t 6)), none⟩,
    ⟨some 19, .p (.conv .u64 (.t 18)), none⟩,
    ⟨some 20, .p (.mov (.t 7)), none⟩,
    ⟨some 21, .p (.conv .u64 (.t 20)), none⟩,
    ⟨some 4, .p (.mov (.t 19)), none⟩,
    ⟨some 5, .p (.mov (.t 21)), none⟩])
  .ret)) .skip)
  (.seq (.reg [⟨some 23, .p (.mov (.t 0)), none⟩,
    ⟨some 24, .p (.mov (.t 1)), none⟩,
    ⟨some 25, .call 50 [(.t 23), (.t 24)], none⟩,
    ⟨some 22, .p (.mov (.t 25)), none⟩,
    ⟨some 26, .p (.extract 0 (.t 22)), none⟩,
    ⟨some 27, .p (.extract 1 (.t 22)), none⟩,
    ⟨some 8, .p (.mov (.t 26)), none⟩,
    ⟨some 9, .p (.mov (.t 27)), none⟩])
  (.seq (.reg [⟨some 28, .p (.mov (.t 8)), none⟩,
    ⟨some 29, .p (.mov (.t 9)), none⟩,
    ⟨some 4, .p (.mov (.t 28)), none⟩,
    ⟨some 5, .p (.mov (.t 29)), none⟩])
  .ret))))
def rs43 : List AR := [.tmp 4, .tmp 5]
theorem ok43 : okF Tryd.prog 43 30 ac43 rs43 = true := by kernel_rfl
/-- slices.Index[[]simulacrum/api.Place,simulacrum/api.Place] -/
def ac44 : AC := (.seq (.reg [⟨some 3, .h (.box (.t 1)), none⟩,
    ⟨some 4, .p (.mov (.c (.int .i64 0))), none⟩])
  (.seq (.seq (.reg [⟨some 6, .p (.mov (.t 0)), none⟩,
    ⟨some 7, .p (.len false (.t 6)), none⟩,
    ⟨some 8, .p (.mov (.c (.int .i64 0))), none⟩])
  (.block 0 (.loop (.seq (.reg [⟨some 9, .p (.bin .lss (.t 8) (.t 7)), none⟩])
  (.seq (.cond (.t 9) .skip (.exit 0))
  (.seq (.block 1 (.seq (.reg [⟨some 10, .p (.mov (.t 8)), none⟩,
    ⟨some 5, .p (.mov (.t 10)), none⟩])
  (.seq (.draw 6 [] [⟨some 11, .h (.load true 2 (.t 3)), none⟩,
    ⟨some 12, .p (.mov (.t 0)), none⟩,
    ⟨some 13, .p (.mov (.t 5)), none⟩,
    ⟨some 14, .p (.idxA 2 none (.t 12) (.t 13)), none⟩,
    ⟨some 15, .h (.load true 2 (.t 14)), none⟩,
    ⟨some 16, .v (.eqa false [(.i .i64), (.i .i64)] (.t 11) (.t 15)), none⟩])
  (.cond (.t 16) (.seq (.reg [⟨some 17, .p (.mov (.t 5)), none⟩,
    ⟨some 4, .p (.mov (.t 17)), none⟩])
  .ret) .skip))))
  (.reg [⟨some 18, .p (.bin .add (.t 8) (.c (.int .i64 1))), none⟩,
    ⟨some 8, .p (.mov (.t 18)), none⟩])))))))
  (.seq (.reg [⟨some 4, .p (.mov (.c (.int .i64 (-1)))), none⟩])
  .ret)))
def rs44 : List AR := [.tmp 4]
theorem ok44 : okF Tryd.prog 44 19 ac44 rs44 = true := by kernel_rfl
/-- simulacrum/hash.Of -/
def ac45 : AC := (.seq (.reg [⟨some 4, .h (.alloc [(.int .u8 0), (.int .u8 0), (.int .u8 0), (.int .u8 0), (.int .u8 0), (.int .u8 0), (.int .u8 0), (.int .u8 0), (.int .u8 0), (.int .u8 0), (.int .u8 0), (.int .u8 0), (.int .u8 0), (.int .u8 0), (.int .u8 0), (.int .u8 0)]), none⟩])
  (.seq (.draw 8 [(3, 5), (6, 7), (5, 7), (3, 7)] [⟨some 9, .call 51 [], none⟩,
    ⟨some 10, .p (.mov (.t 0)), none⟩,
    ⟨some 11, .p (.convw .u8 (.t 10)), none⟩,
    ⟨some 12, .d (.bslice 1 1 [(.int .u8 0)] [(0, (.t 11))]), none⟩,
    ⟨some 13, .d (.sl2s (.t 12)), none⟩,
    ⟨some 14, .call 52 [(.t 9), (.t 13)], none⟩,
    ⟨some 5, .h (.alloc [(.int .u32 0), (.int .u32 0), (.int .u32 0), (.int .u32 0), (.int .u32 0), (.int .u32 0), (.int .u32 0), (.int .u32 0), (.int .u8 0), (.int .u8 0), (.int .u8 0), (.int .u8 0), (.int .u8 0), (.int .u8 0), (.int .u8 0), (.int .u8 0), (.int .u8 0), (.int .u8 0), (.int .u8 0), (.int .u8 0), (.int .u8 0), (.int .u8 0), (.int .u8 0), (.int .u8 0), (.int .u8 0), (.int .u8 0), (.int .u8 0), (.int .u8 0), (.int .u8 0), (.int .u8 0), (.int .u8 0), (.int .u8 0), (.int .u8 0), (.int .u8 0), (.int .u8 0), (.int .u8 0), (.int .u8 0), (.int .u8 0), (.int .u8 0), (.int .u8 0), (.int .u8 0), (.int .u8 0), (.int .u8 0), (.int .u8 0), (.int .u8 0), (.int .u8 0), (.int .u8 0), (.int .u8 0), (.int .u8 0), (.int .u8 0), (.int .u8 0), (.int .u8 0), (.int .u8 0), (.int .u8 0), (.int .u8 0), (.int .u8 0), (.int .u8 0), (.int .u8 0), (.int .u8 0), (.int .u8 0), (.int .u8 0), (.int .u8 0), (.int .u8 0), (.int .u8 0), (.int .u8 0), (.int .u8 0), (.int .u8 0), (.int .u8 0), (.int .u8 0), (.int .u8 0), (.int .u8 0), (.int .u8 0), (.int .u64 0)]), none⟩,
    ⟨none, .h (.store 73 (.t 5) (.t 14)), none⟩])
  (.seq (.seq (.reg [⟨some 15, .p (.mov (.t 1)), none⟩,
    ⟨some 16, .p (.len false (.t 15)), none⟩,
    ⟨some 17, .p (.mov (.c (.int .i64 0))), none⟩])
  (.block 0 (.loop (.seq (.reg [⟨some 18, .p (.bin .lss (.t 17) (.t 16)), none⟩])
  (.seq (.cond (.t 18) .skip (.exit 0))
  (.seq (.block 1 (.seq (.reg [⟨some 19, .p (.idxA 1 none (.t 15) (.t 17)), none⟩,
    ⟨some 20, .h (.load false 1 (.t 19)), none⟩,
    ⟨some 7, .p (.mov (.t 20)), none⟩])
  (.draw 6 [(4, 5), (0, 5), (2, 5)] [⟨some 21, .h (.load true 73 (.t 5)), none⟩,
    ⟨some 22, .p (.mov (.t 7)), none⟩,
    ⟨some 23, .call 53 [(.t 22)], none⟩,
    ⟨some 24, .d (.sl2s (.t 23)), none⟩,
    ⟨some 25, .call 52 [(.t 21), (.t 24)], none⟩,
    ⟨none, .h (.store 73 (.t 5) (.t 25)), none⟩])))
  (.reg [⟨some 26, .p (.bin .add (.t 17) (.c (.int .i64 1))), none⟩,
    ⟨some 17, .p (.mov (.t 26)), none⟩])))))))
  (.seq (.reg [⟨some 27, .h (.load true 73 (.t 5)), none⟩,
    ⟨some 28, .call 54 [(.t 27)], none⟩,
    ⟨some 8, .h (.alloc [(.int .u8 0), (.int .u8 0), (.int .u8 0), (.int .u8 0), (.int .u8 0), (.int .u8 0), (.int .u8 0), (.int .u8 0), (.int .u8 0), (.int .u8 0), (.int .u8 0), (.int .u8 0), (.int .u8 0), (.int .u8 0), (.int .u8 0), (.int .u8 0), (.int .u8 0), (.int .u8 0), (.int .u8 0), (.int .u8 0), (.int .u8 0), (.int .u8 0), (.int .u8 0), (.int .u8 0), (.int .u8 0), (.int .u8 0), (.int .u8 0), (.int .u8 0), (.int .u8 0), (.int .u8 0), (.int .u8 0), (.int .u8 0)]), none⟩,
    ⟨none, .h (.store 32 (.t 8) (.t 28)), none⟩])
  (.seq (.reg [⟨some 29, .d (.asub 1 32 (.t 8) none (some (.c (.int .i64 16)))), none⟩,
    ⟨some 30, .v (.s2a 16 (.t 29)), none⟩,
    ⟨some 31, .h (.load true 16 (.t 30)), none⟩,
    ⟨none, .h (.store 16 (.t 4) (.t 31)), none⟩])
  .ret)))))
def rs45 : List AR := [.cell 4 true 16]
theorem ok45 : okF Tryd.prog 45 32 ac45 rs45 = true := by kernel_rfl
/-- (*simulacrum/disk.Disk).step -/
def ac46 : AC := (.seq (.reg [⟨some 2, .p (.mov (.c (.int .i64 0))), none⟩])
  (.seq (.block 0 (.seq (.reg [⟨some 4, .p (.mov (.t 0)), none⟩,
    ⟨some 5, .p (.nilchk (.t 4)), none⟩,
    ⟨some 6, .p (.fieldA 3 (.t 5)), none⟩,
    ⟨some 7, .h (.load false 1 (.t 6)), none⟩,
    ⟨some 8, .p (.bin .eql (.t 7) (.c (.int .i64 0))), none⟩,
    ⟨some 3, .p (.mov (.t 8)), none⟩])
  (.cond (.t 3) (.seq (.reg [⟨some 9, .p (.mov (.t 0)), none⟩,
    ⟨some 10, .p (.nilchk (.t 9)), none⟩,
    ⟨some 11, .p (.fieldA 4 (.t 10)), none⟩,
    ⟨none, .h (.store 1 (.t 11) (.c (.bool true))), none⟩])
  (.seq (.reg [⟨some 2, .p (.mov (.c (.int .i64 12))), none⟩])
  .ret)) (.seq (.reg [⟨some 13, .p (.mov (.t 0)), none⟩,
    ⟨some 14, .p (.nilchk (.t 13)), none⟩,
    ⟨some 15, .p (.fieldA 3 (.t 14)), none⟩,
    ⟨some 16, .h (.load false 1 (.t 15)), none⟩,
    ⟨some 17, .p (.bin .gtr (.t 16) (.c (.int .i64 0))), none⟩,
    ⟨some 12, .p (.mov (.t 17)), none⟩])
  (.cond (.t 12) (.reg [⟨some 18, .p (.mov (.t 0)), none⟩,
    ⟨some 19, .p (.nilchk (.t 18)), none⟩,
    ⟨some 20, .p (.fieldA 3 (.t 19)), none⟩,
    ⟨some 21, .h (.load false 1 (.t 20)), none⟩,
    ⟨some 22, .p (.bin .sub (.t 21) (.c (.int .i64 1))), none⟩,
    ⟨some 23, .p (.nilchk (.t 18)), none⟩,
    ⟨some 24, .p (.fieldA 3 (.t 23)), none⟩,
    ⟨none, .h (.store 1 (.t 24) (.t 22)), none⟩]) .skip)))))
  (.seq (.reg [⟨some 25, .p (.mov (.t 0)), none⟩,
    ⟨some 26, .p (.nilchk (.t 25)), none⟩,
    ⟨some 27, .p (.fieldA 2 (.t 26)), none⟩,
    ⟨some 28, .h (.load false 1 (.t 27)), none⟩,
    ⟨some 29, .p (.bin .add (.t 28) (.c (.int .i64 1))), none⟩,
    ⟨some 30, .p (.nilchk (.t 25)), none⟩,
    ⟨some 31, .p (.fieldA 2 (.t 30)), none⟩,
    ⟨none, .h (.store 1 (.t 31) (.t 29)), none⟩])
  (.seq (.reg [⟨some 2, .p (.mov (.c (.int .i64 0))), none⟩])
  .ret))))
def rs46 : List AR := [.tmp 2]
theorem ok46 : okF Tryd.prog 46 32 ac46 rs46 = true := by kernel_rfl
/-- math/bits.Mul32 -/
def ac49 : AC := (.seq (.reg [⟨some 4, .p (.mov (.c (.int .u32 0))), none⟩,
    ⟨some 5, .p (.mov (.c (.int .u32 0))), none⟩])
  (.seq (.reg [⟨some 7, .p (.mov (.t 0)), none⟩,
    ⟨some 8, .p (.conv .u64 (.t 7)), none⟩,
    ⟨some 9, .p (.mov (.t 1)), none⟩,
    ⟨some 10, .p (.conv .u64 (.t 9)), none⟩,
    ⟨some 11, .p (.binw .mul (.t 8) (.t 10)), none⟩,
    ⟨some 6, .p (.mov (.t 11)), none⟩])
  (.seq (.reg [⟨some 12, .p (.mov (.t 6)), none⟩,
    ⟨some 13, .p (.binw .shr (.t 12) (.c (.int .u64 32))), none⟩,
    ⟨some 14, .p (.convw .u32 (.t 13)), none⟩,
    ⟨some 15, .p (.mov (.t 6)), none⟩,
    ⟨some 16, .p (.convw .u32 (.t 15)), none⟩,
    ⟨some 4, .p (.mov (.t 14)), none⟩,
    ⟨some 5, .p (.mov (.t 16)), none⟩])
  .ret)))
def rs49 : List AR := [.tmp 4, .tmp 5]
theorem ok49 : okF Tryd.prog 49 17 ac49 rs49 = true := by kernel_rfl
/-- math/bits.Mul64 -/
def ac50 : AC := (.seq (.reg [⟨some 4, .p (.mov (.c (.int .u64 0))), none⟩,
    ⟨some 5, .p (.mov (.c (.int .u64 0))), none⟩])
  (.seq (.reg [⟨some 14, .p (.mov (.t 0)), none⟩,
    ⟨some 15, .p (.binw .and (.t 14) (.c (.int .u64 4294967295))), none⟩,
    ⟨some 6, .p (.mov (.t 15)), none⟩])
  (.seq (.reg [⟨some 16, .p (.mov (.t 0)), none⟩,
    ⟨some 17, .p (.binw .shr (.t 16) (.c (.int .u64 32))), none⟩,
    ⟨some 7, .p (.mov (.t 17)), none⟩])
  (.seq (.reg [⟨some 18, .p (.mov (.t 1)), none⟩,
    ⟨some 19, .p (.binw .and (.t 18) (.c (.int .u64 4294967295))), none⟩,
    ⟨some 8, .p (.mov (.t 19)), none⟩])
  (.seq (.reg [⟨some 20, .p (.mov (.t 1)), none⟩,
    ⟨some 21, .p (.binw .shr (.t 20) (.c (.int .u64 32))), none⟩,
    ⟨some 9, .p (.mov (.t 21)), none⟩])
  (.seq (.reg [⟨some 22, .p (.mov (.t 6)), none⟩,
    ⟨some 23, .p (.mov (.t 8)), none⟩,
    ⟨some 24, .p (.binw .mul (.t 22) (.t 23)), none⟩,
    ⟨some 10, .p (.mov (.t 24)), none⟩])
  (.seq (.reg [⟨some 25, .p (.mov (.t 7)), none⟩,
    ⟨some 26, .p (.mov (.t 8)), none⟩,
    ⟨some 27, .p (.binw .mul (.t 25) (.t 26)), none⟩,
    ⟨some 28, .p (.mov (.t 10)), none⟩,
    ⟨some 29, .p (.binw .shr (.t 28) (.c (.int .u64 32))), none⟩,
    ⟨some 30, .p (.binw .add (.t 27) (.t 29)), none⟩,
    ⟨some 11, .p (.mov (.t 30)), none⟩])
  (.seq (.reg [⟨some 31, .p (.mov (.t 11)), none⟩,
    ⟨some 32, .p (.binw .and (.t 31) (.c (.int .u64 4294967295))), none⟩,
    ⟨some 12, .p (.mov (.t 32)), none⟩])
  (.seq (.reg [⟨some 33, .p (.mov (.t 11)), none⟩,
    ⟨some 34, .p (.binw .shr (.t 33) (.c (.int .u64 32))), none⟩,
    ⟨some 13, .p (.mov (.t 34)), none⟩])
  (.seq (.reg [⟨some 35, .p (.mov (.t 12)), none⟩,
    ⟨some 36, .p (.mov (.t 6)), none⟩,
    ⟨some 37, .p (.mov (.t 9)), none⟩,
    ⟨some 38, .p (.binw .mul (.t 36) (.t 37)), none⟩,
    ⟨some 39, .p (.binw .add (.t 35) (.t 38)), none⟩,
    ⟨some 12, .p (.mov (.t 39)), none⟩])
  (.seq (.reg [⟨some 40, .p (.mov (.t 7)), none⟩,
    ⟨some 41, .p (.mov (.t 9)), none⟩,
    ⟨some 42, .p (.binw .mul (.t 40) (.t 41)), none⟩,
    ⟨some 43, .p (.mov (.t 13)), none⟩,
    ⟨some 44, .p (.binw .add (.t 42) (.t 43)), none⟩,
    ⟨some 45, .p (.mov (.t 12)), none⟩,
    ⟨some 46, .p (.binw .shr (.t 45) (.c (.int .u64 32))), none⟩,
    ⟨some 47, .p (.binw .add (.t 44) (.t 46)), none⟩,
    ⟨some 4, .p (.mov (.t 47)), none⟩])
  (.seq (.reg [⟨some 48, .p (.mov (.t 0)), none⟩,
    ⟨some 49, .p (.mov (.t 1)), none⟩,
    ⟨some 50, .p (.binw .mul (.t 48) (.t 49)), none⟩,
    ⟨some 5, .p (.mov (.t 50)), none⟩])
  .ret))))))))))))
def rs50 : List AR := [.tmp 4, .tmp 5]
theorem ok50 : okF Tryd.prog 50 51 ac50 rs50 = true := by kernel_rfl
/-- simulacrum/hash.Begin -/
def ac51 : AC := (.seq (.reg [⟨some 0, .h (.alloc [(.int .u32 0), (.int .u32 0), (.int .u32 0), (.int .u32 0), (.int .u32 0), (.int .u32 0), (.int .u32 0), (.int .u32 0), (.int .u8 0), (.int .u8 0), (.int .u8 0), (.int .u8 0), (.int .u8 0), (.int .u8 0), (.int .u8 0), (.int .u8 0), (.int .u8 0), (.int .u8 0), (.int .u8 0), (.int .u8 0), (.int .u8 0), (.int .u8 0), (.int .u8 0), (.int .u8 0), (.int .u8 0), (.int .u8 0), (.int .u8 0), (.int .u8 0), (.int .u8 0), (.int .u8 0), (.int .u8 0), (.int .u8 0), (.int .u8 0), (.int .u8 0), (.int .u8 0), (.int .u8 0), (.int .u8 0), (.int .u8 0), (.int .u8 0), (.int .u8 0), (.int .u8 0), (.int .u8 0), (.int .u8 0), (.int .u8 0), (.int .u8 0), (.int .u8 0), (.int .u8 0), (.int .u8 0), (.int .u8 0), (.int .u8 0), (.int .u8 0), (.int .u8 0), (.int .u8 0), (.int .u8 0), (.int .u8 0), (.int .u8 0), (.int .u8 0), (.int .u8 0), (.int .u8 0), (.int .u8 0), (.int .u8 0), (.int .u8 0), (.int .u8 0), (.int .u8 0), (.int .u8 0), (.int .u8 0), (.int .u8 0), (.int .u8 0), (.int .u8 0), (.int .u8 0), (.int .u8 0), (.int .u8 0), (.int .u64 0)]), none⟩])
  (.seq (.reg [⟨some 1, .v (.build [(.int .u32 0), (.int .u32 0), (.int .u32 0), (.int .u32 0), (.int .u32 0), (.int .u32 0), (.int .u32 0), (.int .u32 0)] [(0, 1, (.c (.int .u32 1779033703))), (1, 1, (.c (.int .u32 3144134277))), (2, 1, (.c (.int .u32 1013904242))), (3, 1, (.c (.int .u32 2773480762))), (4, 1, (.c (.int .u32 1359893119))), (5, 1, (.c (.int .u32 2600822924))), (6, 1, (.c (.int .u32 528734635))), (7, 1, (.c (.int .u32 1541459225)))]), none⟩,
    ⟨some 2, .v (.build [(.int .u32 0), (.int .u32 0), (.int .u32 0), (.int .u32 0), (.int .u32 0), (.int .u32 0), (.int .u32 0), (.int .u32 0), (.int .u8 0), (.int .u8 0), (.int .u8 0), (.int .u8 0), (.int .u8 0), (.int .u8 0), (.int .u8 0), (.int .u8 0), (.int .u8 0), (.int .u8 0), (.int .u8 0), (.int .u8 0), (.int .u8 0), (.int .u8 0), (.int .u8 0), (.int .u8 0), (.int .u8 0), (.int .u8 0), (.int .u8 0), (.int .u8 0), (.int .u8 0), (.int .u8 0), (.int .u8 0), (.int .u8 0), (.int .u8 0), (.int .u8 0), (.int .u8 0), (.int .u8 0), (.int .u8 0), (.int .u8 0), (.int .u8 0), (.int .u8 0), (.int .u8 0), (.int .u8 0), (.int .u8 0), (.int .u8 0), (.int .u8 0), (.int .u8 0), (.int .u8 0), (.int .u8 0), (.int .u8 0), (.int .u8 0), (.int .u8 0), (.int .u8 0), (.int .u8 0), (.int .u8 0), (.int .u8 0), (.int .u8 0), (.int .u8 0), (.int .u8 0), (.int .u8 0), (.int .u8 0), (.int .u8 0), (.int .u8 0), (.int .u8 0), (.int .u8 0), (.int .u8 0), (.int .u8 0), (.int .u8 0), (.int .u8 0), (.int .u8 0), (.int .u8 0), (.int .u8 0), (.int .u8 0), (.int .u64 0)] [(0, 8, (.t 1))]), none⟩,
    ⟨none, .h (.store 73 (.t 0) (.t 2)), none⟩])
  .ret))
def rs51 : List AR := [.cell 0 true 73]
theorem ok51 : okF Tryd.prog 51 3 ac51 rs51 = true := by kernel_rfl
/-- (simulacrum/hash.Stream).Add -/
def ac52 : AC := (.seq (.reg [⟨some 2, .h (.box (.t 0)), none⟩,
    ⟨some 4, .h (.alloc [(.int .u32 0), (.int .u32 0), (.int .u32 0), (.int .u32 0), (.int .u32 0), (.int .u32 0), (.int .u32 0), (.int .u32 0), (.int .u8 0), (.int .u8 0), (.int .u8 0), (.int .u8 0), (.int .u8 0), (.int .u8 0), (.int .u8 0), (.int .u8 0), (.int .u8 0), (.int .u8 0), (.int .u8 0), (.int .u8 0), (.int .u8 0), (.int .u8 0), (.int .u8 0), (.int .u8 0), (.int .u8 0), (.int .u8 0), (.int .u8 0), (.int .u8 0), (.int .u8 0), (.int .u8 0), (.int .u8 0), (.int .u8 0), (.int .u8 0), (.int .u8 0), (.int .u8 0), (.int .u8 0), (.int .u8 0), (.int .u8 0), (.int .u8 0), (.int .u8 0), (.int .u8 0), (.int .u8 0), (.int .u8 0), (.int .u8 0), (.int .u8 0), (.int .u8 0), (.int .u8 0), (.int .u8 0), (.int .u8 0), (.int .u8 0), (.int .u8 0), (.int .u8 0), (.int .u8 0), (.int .u8 0), (.int .u8 0), (.int .u8 0), (.int .u8 0), (.int .u8 0), (.int .u8 0), (.int .u8 0), (.int .u8 0), (.int .u8 0), (.int .u8 0), (.int .u8 0), (.int .u8 0), (.int .u8 0), (.int .u8 0), (.int .u8 0), (.int .u8 0), (.int .u8 0), (.int .u8 0), (.int .u8 0), (.int .u64 0)]), none⟩])
  (.seq (.block 0 (.loop (.seq (.seq (.reg [⟨some 7, .p (.mov (.t 1)), none⟩,
    ⟨some 8, .p (.bin .neq (.t 7) (.c (.str ⟨#[]⟩))), none⟩])
  (.cond (.t 8) .skip (.exit 0)))
  (.block 1 (.seq (.reg [⟨some 9, .p (.fieldA 72 (.t 2)), none⟩,
    ⟨some 10, .h (.load false 1 (.t 9)), none⟩,
    ⟨some 11, .p (.binw .rem (.t 10) (.c (.int .u64 64))), none⟩,
    ⟨some 12, .p (.convw .i64 (.t 11)), none⟩,
    ⟨some 5, .p (.mov (.t 12)), none⟩])
  (.seq (.reg [⟨some 13, .p (.fieldA 8 (.t 2)), none⟩,
    ⟨some 14, .p (.mov (.t 5)), none⟩,
    ⟨some 15, .d (.asub 1 64 (.t 13) (some (.t 14)) none), none⟩,
    ⟨some 16, .p (.mov (.t 1)), none⟩,
    ⟨some 17, .m (.copyS (.t 15) (.t 16)), none⟩,
    ⟨some 6, .p (.mov (.t 17)), none⟩])
  (.seq (.reg [⟨some 18, .p (.mov (.t 1)), none⟩,
    ⟨some 19, .p (.mov (.t 6)), none⟩,
    ⟨some 20, .v (.ssub (.t 18) (some (.t 19)) none), none⟩,
    ⟨some 1, .p (.mov (.t 20)), none⟩])
  (.seq (.reg [⟨some 21, .p (.fieldA 72 (.t 2)), none⟩,
    ⟨some 22, .h (.load false 1 (.t 21)), none⟩,
    ⟨some 23, .p (.mov (.t 6)), none⟩,
    ⟨some 24, .p (.convw .u64 (.t 23)), none⟩,
    ⟨some 25, .p (.binw .add (.t 22) (.t 24)), none⟩,
    ⟨some 26, .p (.fieldA 72 (.t 2)), none⟩,
    ⟨none, .h (.store 1 (.t 26) (.t 25)), none⟩])
  (.seq (.reg [⟨some 27, .p (.mov (.t 5)), none⟩,
    ⟨some 28, .p (.mov (.t 6)), none⟩,
    ⟨some 29, .p (.bin .add (.t 27) (.t 28)), none⟩,
    ⟨some 30, .p (.bin .eql (.t 29) (.c (.int .i64 64))), none⟩])
  (.cond (.t 30) (.draw 7 [(4, 6), (1, 6), (3, 6)] [⟨some 31, .p (.fieldA 0 (.t 2)), none⟩,
    ⟨some 32, .h (.load true 8 (.t 31)), none⟩,
    ⟨some 33, .p (.fieldA 8 (.t 2)), none⟩,
    ⟨some 34, .d (.asub 1 64 (.t 33) none none), none⟩,
    ⟨some 35, .call 57 [(.t 32), (.t 34)], none⟩,
    ⟨some 36, .p (.fieldA 0 (.t 2)), none⟩,
    ⟨none, .h (.store 8 (.t 36) (.t 35)), none⟩]) .skip))))))))))
  (.seq (.reg [⟨some 37, .h (.load true 73 (.t 2)), none⟩,
    ⟨none, .h (.store 73 (.t 4) (.t 37)), none⟩])
  .ret)))
def rs52 : List AR := [.cell 4 true 73]
theorem ok52 : okF Tryd.prog 52 38 ac52 rs52 = true := by kernel_rfl
/-- simulacrum/wire.Bytes -/
def ac53 : AC := (.seq (.reg [⟨some 2, .p (.mov (.c .nils)), none⟩])
  (.seq (.reg [⟨some 3, .p (.mov (.t 0)), none⟩,
    ⟨some 4, .p (.len true (.t 3)), none⟩,
    ⟨some 5, .call 58 [(.t 4)], none⟩,
    ⟨some 6, .p (.mov (.t 0)), none⟩,
    ⟨some 7, .l (.appendS 1 (.t 5) (.t 6)), none⟩,
    ⟨some 2, .p (.mov (.t 7)), none⟩])
  .ret))
def rs53 : List AR := [.tmp 2]
theorem ok53 : okF Tryd.prog 53 8 ac53 rs53 = true := by kernel_rfl
/-- (simulacrum/hash.Stream).Sum -/
def ac54 : AC := (.seq (.reg [⟨some 1, .h (.box (.t 0)), none⟩,
    ⟨some 2, .h (.alloc [(.int .u8 0), (.int .u8 0), (.int .u8 0), (.int .u8 0), (.int .u8 0), (.int .u8 0), (.int .u8 0), (.int .u8 0), (.int .u8 0), (.int .u8 0), (.int .u8 0), (.int .u8 0), (.int .u8 0), (.int .u8 0), (.int .u8 0), (.int .u8 0), (.int .u8 0), (.int .u8 0), (.int .u8 0), (.int .u8 0), (.int .u8 0), (.int .u8 0), (.int .u8 0), (.int .u8 0), (.int .u8 0), (.int .u8 0), (.int .u8 0), (.int .u8 0), (.int .u8 0), (.int .u8 0), (.int .u8 0), (.int .u8 0)]), none⟩])
  (.seq (.reg [⟨some 8, .p (.fieldA 72 (.t 1)), none⟩,
    ⟨some 9, .h (.load false 1 (.t 8)), none⟩,
    ⟨some 10, .p (.binw .mul (.c (.int .u64 8)) (.t 9)), none⟩,
    ⟨some 3, .p (.mov (.t 10)), none⟩])
  (.seq (.reg [⟨some 11, .d (.bslice 1 1 [(.int .u8 0)] [(0, (.c (.int .u8 128)))]), none⟩,
    ⟨some 4, .p (.mov (.t 11)), none⟩])
  (.seq (.block 0 (.loop (.seq (.seq (.reg [⟨some 12, .p (.fieldA 72 (.t 1)), none⟩,
    ⟨some 13, .h (.load false 1 (.t 12)), none⟩,
    ⟨some 14, .p (.convw .i64 (.t 13)), none⟩,
    ⟨some 15, .p (.mov (.t 4)), none⟩,
    ⟨some 16, .p (.len false (.t 15)), none⟩,
    ⟨some 17, .p (.bin .add (.t 14) (.t 16)), none⟩,
    ⟨some 18, .p (.bin .rem (.t 17) (.c (.int .i64 64))), none⟩,
    ⟨some 19, .p (.bin .neq (.t 18) (.c (.int .i64 56))), none⟩])
  (.cond (.t 19) .skip (.exit 0)))
  (.block 1 (.reg [⟨some 20, .p (.mov (.t 4)), none⟩,
    ⟨some 21, .d (.bslice 1 1 [(.int .u8 0)] [(0, (.c (.int .u8 0)))]), none⟩,
    ⟨some 22, .l (.append 1 1 (.t 20) (.t 21)), none⟩,
    ⟨some 4, .p (.mov (.t 22)), none⟩])))))
  (.seq (.seq (.reg [⟨some 23, .p (.mov (.c (.int .i64 0))), none⟩])
  (.block 2 (.loop (.seq (.reg [⟨some 24, .p (.bin .lss (.t 23) (.c (.int .i64 8))), none⟩])
  (.seq (.cond (.t 24) .skip (.exit 2))
  (.seq (.block 3 (.seq (.reg [⟨some 25, .p (.mov (.t 23)), none⟩,
    ⟨some 5, .p (.mov (.t 25)), none⟩])
  (.reg [⟨some 26, .p (.mov (.t 4)), none⟩,
    ⟨some 27, .p (.mov (.t 3)), none⟩,
    ⟨some 28, .p (.mov (.t 5)), none⟩,
    ⟨some 29, .p (.bin .mul (.c (.int .i64 8)) (.t 28)), none⟩,
    ⟨some 30, .p (.bin .sub (.c (.int .i64 56)) (.t 29)), none⟩,
    ⟨some 31, .p (.binw .shr (.t 27) (.t 30)), none⟩,
    ⟨some 32, .p (.convw .u8 (.t 31)), none⟩,
    ⟨some 33, .d (.bslice 1 1 [(.int .u8 0)] [(0, (.t 32))]), none⟩,
    ⟨some 34, .l (.append 1 1 (.t 26) (.t 33)), none⟩,
    ⟨some 4, .p (.mov (.t 34)), none⟩])))
  (.reg [⟨some 35, .p (.bin .add (.t 23) (.c (.int .i64 1))), none⟩,
    ⟨some 23, .p (.mov (.t 35)), none⟩])))))))
  (.seq (.reg [⟨some 36, .h (.load true 73 (.t 1)), none⟩,
    ⟨some 37, .p (.mov (.t 4)), none⟩,
    ⟨some 38, .d (.sl2s (.t 37)), none⟩,
    ⟨some 39, .call 52 [(.t 36), (.t 38)], none⟩,
    ⟨none, .h (.store 73 (.t 1) (.t 39)), none⟩])
  (.seq (.reg [⟨some 6, .h (.alloc [(.int .u8 0), (.int .u8 0), (.int .u8 0), (.int .u8 0), (.int .u8 0), (.int .u8 0), (.int .u8 0), (.int .u8 0), (.int .u8 0), (.int .u8 0), (.int .u8 0), (.int .u8 0), (.int .u8 0), (.int .u8 0), (.int .u8 0), (.int .u8 0), (.int .u8 0), (.int .u8 0), (.int .u8 0), (.int .u8 0), (.int .u8 0), (.int .u8 0), (.int .u8 0), (.int .u8 0), (.int .u8 0), (.int .u8 0), (.int .u8 0), (.int .u8 0), (.int .u8 0), (.int .u8 0), (.int .u8 0), (.int .u8 0)]), none⟩])
  (.seq (.seq (.reg [⟨some 40, .p (.mov (.c (.int .i64 0))), none⟩])
  (.block 4 (.loop (.seq (.reg [⟨some 41, .p (.bin .lss (.t 40) (.c (.int .i64 32))), none⟩])
  (.seq (.cond (.t 41) .skip (.exit 4))
  (.seq (.block 5 (.seq (.reg [⟨some 42, .p (.mov (.t 40)), none⟩,
    ⟨some 7, .p (.mov (.t 42)), none⟩])
  (.reg [⟨some 43, .p (.mov (.t 7)), none⟩,
    ⟨some 44, .p (.mov (.t 7)), none⟩,
    ⟨some 45, .p (.bin .quo (.t 44) (.c (.int .i64 4))), none⟩,
    ⟨some 46, .p (.fieldA 0 (.t 1)), none⟩,
    ⟨some 47, .p (.idxA 1 (some 8) (.t 46) (.t 45)), none⟩,
    ⟨some 48, .h (.load false 1 (.t 47)), none⟩,
    ⟨some 49, .p (.mov (.t 7)), none⟩,
    ⟨some 50, .p (.bin .rem (.t 49) (.c (.int .i64 4))), none⟩,
    ⟨some 51, .p (.bin .mul (.c (.int .i64 8)) (.t 50)), none⟩,
    ⟨some 52, .p (.bin .sub (.c (.int .i64 24)) (.t 51)), none⟩,
    ⟨some 53, .p (.binw .shr (.t 48) (.t 52)), none⟩,
    ⟨some 54, .p (.convw .u8 (.t 53)), none⟩,
    ⟨some 55, .p (.idxA 1 (some 32) (.t 6) (.t 43)), none⟩,
    ⟨none, .h (.store 1 (.t 55) (.t 54)), none⟩])))
  (.reg [⟨some 56, .p (.bin .add (.t 40) (.c (.int .i64 1))), none⟩,
    ⟨some 40, .p (.mov (.t 56)), none⟩])))))))
  (.seq (.reg [⟨some 57, .h (.load true 32 (.t 6)), none⟩,
    ⟨none, .h (.store 32 (.t 2) (.t 57)), none⟩])
  .ret)))))))))
def rs54 : List AR := [.cell 2 true 32]
theorem ok54 : okF Tryd.prog 54 58 ac54 rs54 = true := by kernel_rfl
/-- simulacrum/hash.compress -/
def ac57 : AC := (.seq (.reg [⟨some 2, .h (.box (.t 0)), none⟩,
    ⟨some 4, .h (.alloc [(.int .u32 0), (.int .u32 0), (.int .u32 0), (.int .u32 0), (.int .u32 0), (.int .u32 0), (.int .u32 0), (.int .u32 0)]), none⟩])
  (.seq (.reg [⟨some 13, .p (.mov (.t 1)), none⟩,
    ⟨some 14, .call 63 [(.t 13)], none⟩,
    ⟨some 5, .h (.alloc [(.int .u32 0), (.int .u32 0), (.int .u32 0), (.int .u32 0), (.int .u32 0), (.int .u32 0), (.int .u32 0), (.int .u32 0), (.int .u32 0), (.int .u32 0), (.int .u32 0), (.int .u32 0), (.int .u32 0), (.int .u32 0), (.int .u32 0), (.int .u32 0), (.int .u32 0), (.int .u32 0), (.int .u32 0), (.int .u32 0), (.int .u32 0), (.int .u32 0), (.int .u32 0), (.int .u32 0), (.int .u32 0), (.int .u32 0), (.int .u32 0), (.int .u32 0), (.int .u32 0), (.int .u32 0), (.int .u32 0), (.int .u32 0), (.int .u32 0), (.int .u32 0), (.int .u32 0), (.int .u32 0), (.int .u32 0), (.int .u32 0), (.int .u32 0), (.int .u32 0), (.int .u32 0), (.int .u32 0), (.int .u32 0), (.int .u32 0), (.int .u32 0), (.int .u32 0), (.int .u32 0), (.int .u32 0), (.int .u32 0), (.int .u32 0), (.int .u32 0), (.int .u32 0), (.int .u32 0), (.int .u32 0), (.int .u32 0), (.int .u32 0), (.int .u32 0), (.int .u32 0), (.int .u32 0), (.int .u32 0), (.int .u32 0), (.int .u32 0), (.int .u32 0), (.int .u32 0)]), none⟩,
    ⟨none, .h (.store 64 (.t 5) (.t 14)), none⟩])
  (.seq (.draw 10 [(6, 8), (2, 8), (0, 8), (7, 8), (7, 9), (5, 9), (8, 9), (0, 9), (2, 9), (3, 9), (6, 9)] [⟨some 15, .d (.asub 1 8 (.t 2) none (some (.c (.int .i64 4)))), none⟩,
    ⟨some 16, .v (.s2a 4 (.t 15)), none⟩,
    ⟨some 17, .h (.load true 4 (.t 16)), none⟩,
    ⟨some 18, .d (.asub 1 8 (.t 2) (some (.c (.int .i64 4))) none), none⟩,
    ⟨some 19, .v (.s2a 4 (.t 18)), none⟩,
    ⟨some 20, .h (.load true 4 (.t 19)), none⟩,
    ⟨some 6, .h (.alloc [(.int .u32 0), (.int .u32 0), (.int .u32 0), (.int .u32 0)]), none⟩,
    ⟨some 7, .h (.alloc [(.int .u32 0), (.int .u32 0), (.int .u32 0), (.int .u32 0)]), none⟩,
    ⟨none, .h (.store 4 (.t 6) (.t 17)), none⟩,
    ⟨none, .h (.store 4 (.t 7) (.t 20)), none⟩])
  (.seq (.seq (.reg [⟨some 21, .h (.load true 64 (.g 1)), none⟩,
    ⟨some 22, .p (.mov (.c (.int .i64 0))), none⟩])
  (.block 0 (.loop (.seq (.reg [⟨some 23, .p (.bin .lss (.t 22) (.c (.int .i64 64))), none⟩])
  (.seq (.cond (.t 23) .skip (.exit 0))
  (.seq (.block 1 (.seq (.reg [⟨some 24, .p (.mov (.t 22)), none⟩,
    ⟨some 25, .v (.idx false 1 64 (.t 21) (.t 22)), none⟩,
    ⟨some 8, .p (.mov (.t 24)), none⟩,
    ⟨some 9, .p (.mov (.t 25)), none⟩])
  (.seq (.draw 26 [] [⟨some 26, .p (.idxA 1 (some 4) (.t 7) (.c (.int .i64 3))), none⟩,
    ⟨some 27, .h (.load false 1 (.t 26)), none⟩,
    ⟨some 28, .p (.idxA 1 (some 4) (.t 7) (.c (.int .i64 0))), none⟩,
    ⟨some 29, .h (.load false 1 (.t 28)), none⟩,
    ⟨some 30, .call 64 [(.t 29), (.c (.int .i64 6)), (.c (.int .i64 11)), (.c (.int .i64 25))], none⟩,
    ⟨some 31, .p (.binw .add (.t 27) (.t 30)), none⟩,
    ⟨some 32, .p (.idxA 1 (some 4) (.t 7) (.c (.int .i64 0))), none⟩,
    ⟨some 33, .h (.load false 1 (.t 32)), none⟩,
    ⟨some 34, .p (.idxA 1 (some 4) (.t 7) (.c (.int .i64 1))), none⟩,
    ⟨some 35, .h (.load false 1 (.t 34)), none⟩,
    ⟨some 36, .p (.binw .and (.t 33) (.t 35)), none⟩,
    ⟨some 37, .p (.idxA 1 (some 4) (.t 7) (.c (.int .i64 0))), none⟩,
    ⟨some 38, .h (.load false 1 (.t 37)), none⟩,
    ⟨some 39, .p (.un .xor (.t 38)), none⟩,
    ⟨some 40, .p (.idxA 1 (some 4) (.t 7) (.c (.int .i64 2))), none⟩,
    ⟨some 41, .h (.load false 1 (.t 40)), none⟩,
    ⟨some 42, .p (.binw .and (.t 39) (.t 41)), none⟩,
    ⟨some 43, .p (.binw .xor (.t 36) (.t 42)), none⟩,
    ⟨some 44, .p (.binw .add (.t 31) (.t 43)), none⟩,
    ⟨some 45, .p (.mov (.t 9)), none⟩,
    ⟨some 46, .p (.binw .add (.t 44) (.t 45)), none⟩,
    ⟨some 47, .p (.mov (.t 8)), none⟩,
    ⟨some 48, .p (.idxA 1 (some 64) (.t 5) (.t 47)), none⟩,
    ⟨some 49, .h (.load false 1 (.t 48)), none⟩,
    ⟨some 50, .p (.binw .add (.t 46) (.t 49)), none⟩,
    ⟨some 10, .p (.mov (.t 50)), none⟩])
  (.seq (.draw 22 [] [⟨some 51, .p (.idxA 1 (some 4) (.t 6) (.c (.int .i64 0))), none⟩,
    ⟨some 52, .h (.load false 1 (.t 51)), none⟩,
    ⟨some 53, .call 64 [(.t 52), (.c (.int .i64 2)), (.c (.int .i64 13)), (.c (.int .i64 22))], none⟩,
    ⟨some 54, .p (.idxA 1 (some 4) (.t 6) (.c (.int .i64 0))), none⟩,
    ⟨some 55, .h (.load false 1 (.t 54)), none⟩,
    ⟨some 56, .p (.idxA 1 (some 4) (.t 6) (.c (.int .i64 1))), none⟩,
    ⟨some 57, .h (.load false 1 (.t 56)), none⟩,
    ⟨some 58, .p (.binw .and (.t 55) (.t 57)), none⟩,
    ⟨some 59, .p (.idxA 1 (some 4) (.t 6) (.c (.int .i64 0))), none⟩,
    ⟨some 60, .h (.load false 1 (.t 59)), none⟩,
    ⟨some 61, .p (.idxA 1 (some 4) (.t 6) (.c (.int .i64 2))), none⟩,
    ⟨some 62, .h (.load false 1 (.t 61)), none⟩,
    ⟨some 63, .p (.binw .and (.t 60) (.t 62)), none⟩,
    ⟨some 64, .p (.binw .xor (.t 58) (.t 63)), none⟩,
    ⟨some 65, .p (.idxA 1 (some 4) (.t 6) (.c (.int .i64 1))), none⟩,
    ⟨some 66, .h (.load false 1 (.t 65)), none⟩,
    ⟨some 67, .p (.idxA 1 (some 4) (.t 6) (.c (.int .i64 2))), none⟩,
    ⟨some 68, .h (.load false 1 (.t 67)), none⟩,
    ⟨some 69, .p (.binw .and (.t 66) (.t 68)), none⟩,
    ⟨some 70, .p (.binw .xor (.t 64) (.t 69)), none⟩,
    ⟨some 71, .p (.binw .add (.t 53) (.t 70)), none⟩,
    ⟨some 11, .p (.mov (.t 71)), none⟩])
  (.seq (.reg [⟨some 72, .p (.idxA 1 (some 4) (.t 6) (.c (.int .i64 3))), none⟩,
    ⟨some 73, .h (.load false 1 (.t 72)), none⟩,
    ⟨some 74, .p (.mov (.t 10)), none⟩,
    ⟨some 75, .p (.binw .add (.t 73) (.t 74)), none⟩,
    ⟨some 76, .p (.idxA 1 (some 4) (.t 7) (.c (.int .i64 0))), none⟩,
    ⟨some 77, .h (.load false 1 (.t 76)), none⟩,
    ⟨some 78, .p (.idxA 1 (some 4) (.t 7) (.c (.int .i64 1))), none⟩,
    ⟨some 79, .h (.load false 1 (.t 78)), none⟩,
    ⟨some 80, .p (.idxA 1 (some 4) (.t 7) (.c (.int .i64 2))), none⟩,
    ⟨some 81, .h (.load false 1 (.t 80)), none⟩,
    ⟨some 82, .v (.build [(.int .u32 0), (.int .u32 0), (.int .u32 0), (.int .u32 0)] [(0, 1, (.t 75)), (1, 1, (.t 77)), (2, 1, (.t 79)), (3, 1, (.t 81))]), none⟩,
    ⟨none, .h (.store 4 (.t 7) (.t 82)), none⟩])
  (.reg [⟨some 83, .p (.mov (.t 10)), none⟩,
    ⟨some 84, .p (.mov (.t 11)), none⟩,
    ⟨some 85, .p (.binw .add (.t 83) (.t 84)), none⟩,
    ⟨some 86, .p (.idxA 1 (some 4) (.t 6) (.c (.int .i64 0))), none⟩,
    ⟨some 87, .h (.load false 1 (.t 86)), none⟩,
    ⟨some 88, .p (.idxA 1 (some 4) (.t 6) (.c (.int .i64 1))), none⟩,
    ⟨some 89, .h (.load false 1 (.t 88)), none⟩,
    ⟨some 90, .p (.idxA 1 (some 4) (.t 6) (.c (.int .i64 2))), none⟩,
    ⟨some 91, .h (.load false 1 (.t 90)), none⟩,
    ⟨some 92, .v (.build [(.int .u32 0), (.int .u32 0), (.int .u32 0), (.int .u32 0)] [(0, 1, (.t 85)), (1, 1, (.t 87)), (2, 1, (.t 89)), (3, 1, (.t 91))]), none⟩,
    ⟨none, .h (.store 4 (.t 6) (.t 92)), none⟩]))))))
  (.reg [⟨some 93, .p (.bin .add (.t 22) (.c (.int .i64 1))), none⟩,
    ⟨some 22, .p (.mov (.t 93)), none⟩])))))))
  (.seq (.seq (.reg [⟨some 94, .p (.mov (.c (.int .i64 0))), none⟩])
  (.block 2 (.loop (.seq (.reg [⟨some 95, .p (.bin .lss (.t 94) (.c (.int .i64 4))), none⟩])
  (.seq (.cond (.t 95) .skip (.exit 2))
  (.seq (.block 3 (.seq (.reg [⟨some 96, .p (.mov (.t 94)), none⟩,
    ⟨some 12, .p (.mov (.t 96)), none⟩])
  (.seq (.draw 9 [(2, 8), (5, 8)] [⟨some 97, .p (.mov (.t 12)), none⟩,
    ⟨some 98, .p (.idxA 1 (some 8) (.t 2) (.t 97)), none⟩,
    ⟨some 99, .h (.load false 1 (.t 98)), none⟩,
    ⟨some 100, .p (.mov (.t 12)), none⟩,
    ⟨some 101, .p (.idxA 1 (some 4) (.t 6) (.t 100)), none⟩,
    ⟨some 102, .h (.load false 1 (.t 101)), none⟩,
    ⟨some 103, .p (.binw .add (.t 99) (.t 102)), none⟩,
    ⟨some 104, .p (.idxA 1 (some 8) (.t 2) (.t 97)), none⟩,
    ⟨none, .h (.store 1 (.t 104) (.t 103)), none⟩])
  (.draw 10 [(3, 9), (6, 9)] [⟨some 105, .p (.mov (.t 12)), none⟩,
    ⟨some 106, .p (.bin .add (.t 105) (.c (.int .i64 4))), none⟩,
    ⟨some 107, .p (.idxA 1 (some 8) (.t 2) (.t 106)), none⟩,
    ⟨some 108, .h (.load false 1 (.t 107)), none⟩,
    ⟨some 109, .p (.mov (.t 12)), none⟩,
    ⟨some 110, .p (.idxA 1 (some 4) (.t 7) (.t 109)), none⟩,
    ⟨some 111, .h (.load false 1 (.t 110)), none⟩,
    ⟨some 112, .p (.binw .add (.t 108) (.t 111)), none⟩,
    ⟨some 113, .p (.idxA 1 (some 8) (.t 2) (.t 106)), none⟩,
    ⟨none, .h (.store 1 (.t 113) (.t 112)), none⟩]))))
  (.reg [⟨some 114, .p (.bin .add (.t 94) (.c (.int .i64 1))), none⟩,
    ⟨some 94, .p (.mov (.t 114)), none⟩])))))))
  (.seq (.reg [⟨some 115, .h (.load true 8 (.t 2)), none⟩,
    ⟨none, .h (.store 8 (.t 4) (.t 115)), none⟩])
  .ret))))))
def rs57 : List AR := [.cell 4 true 8]
theorem ok57 : okF Tryd.prog 57 116 ac57 rs57 = true := by kernel_rfl
/-- simulacrum/wire.Int -/
def ac58 : AC := (.seq (.reg [⟨some 2, .p (.mov (.c .nils)), none⟩])
  (.seq (.reg [⟨some 5, .p (.mov (.t 0)), none⟩,
    ⟨some 6, .p (.convw .u64 (.t 5)), none⟩,
    ⟨some 7, .p (.binw .shl (.t 6) (.c (.int .u64 1))), none⟩,
    ⟨some 8, .p (.mov (.t 0)), none⟩,
    ⟨some 9, .p (.binw .shr (.t 8) (.c (.int .u64 63))), none⟩,
    ⟨some 10, .p (.convw .u64 (.t 9)), none⟩,
    ⟨some 11, .p (.binw .xor (.t 7) (.t 10)), none⟩,
    ⟨some 3, .p (.mov (.t 11)), none⟩])
  (.seq (.reg [⟨some 4, .p (.mov (.c .nils)), none⟩])
  (.seq (.block 0 (.loop (.seq (.seq (.reg [⟨some 12, .p (.mov (.t 3)), none⟩,
    ⟨some 13, .p (.binw .gtr (.t 12) (.c (.int .u64 127))), none⟩])
  (.cond (.t 13) .skip (.exit 0)))
  (.seq (.block 1 (.reg [⟨some 16, .p (.mov (.t 4)), none⟩,
    ⟨some 17, .p (.mov (.t 3)), none⟩,
    ⟨some 18, .p (.convw .u8 (.t 17)), none⟩,
    ⟨some 19, .p (.binw .or (.t 18) (.c (.int .u8 128))), none⟩,
    ⟨some 20, .d (.bslice 1 1 [(.int .u8 0)] [(0, (.t 19))]), none⟩,
    ⟨some 21, .l (.append 1 1 (.t 16) (.t 20)), none⟩,
    ⟨some 4, .p (.mov (.t 21)), none⟩]))
  (.reg [⟨some 14, .p (.mov (.t 3)), none⟩,
    ⟨some 15, .p (.binw .shr (.t 14) (.c (.int .u64 7))), none⟩,
    ⟨some 3, .p (.mov (.t 15)), none⟩])))))
  (.seq (.reg [⟨some 22, .p (.mov (.t 4)), none⟩,
    ⟨some 23, .p (.mov (.t 3)), none⟩,
    ⟨some 24, .p (.convw .u8 (.t 23)), none⟩,
    ⟨some 25, .d (.bslice 1 1 [(.int .u8 0)] [(0, (.t 24))]), none⟩,
    ⟨some 26, .l (.append 1 1 (.t 22) (.t 25)), none⟩,
    ⟨some 2, .p (.mov (.t 26)), none⟩])
  .ret)))))
def rs58 : List AR := [.tmp 2]
theorem ok58 : okF Tryd.prog 58 27 ac58 rs58 = true := by kernel_rfl
/-- simulacrum/hash.schedule -/
def ac63 : AC := (.seq (.reg [⟨some 2, .h (.alloc [(.int .u32 0), (.int .u32 0), (.int .u32 0), (.int .u32 0), (.int .u32 0), (.int .u32 0), (.int .u32 0), (.int .u32 0), (.int .u32 0), (.int .u32 0), (.int .u32 0), (.int .u32 0), (.int .u32 0), (.int .u32 0), (.int .u32 0), (.int .u32 0), (.int .u32 0), (.int .u32 0), (.int .u32 0), (.int .u32 0), (.int .u32 0), (.int .u32 0), (.int .u32 0), (.int .u32 0), (.int .u32 0), (.int .u32 0), (.int .u32 0), (.int .u32 0), (.int .u32 0), (.int .u32 0), (.int .u32 0), (.int .u32 0), (.int .u32 0), (.int .u32 0), (.int .u32 0), (.int .u32 0), (.int .u32 0), (.int .u32 0), (.int .u32 0), (.int .u32 0), (.int .u32 0), (.int .u32 0), (.int .u32 0), (.int .u32 0), (.int .u32 0), (.int .u32 0), (.int .u32 0), (.int .u32 0), (.int .u32 0), (.int .u32 0), (.int .u32 0), (.int .u32 0), (.int .u32 0), (.int .u32 0), (.int .u32 0), (.int .u32 0), (.int .u32 0), (.int .u32 0), (.int .u32 0), (.int .u32 0), (.int .u32 0), (.int .u32 0), (.int .u32 0), (.int .u32 0)]), none⟩])
  (.seq (.reg [⟨some 3, .h (.alloc [(.int .u32 0), (.int .u32 0), (.int .u32 0), (.int .u32 0), (.int .u32 0), (.int .u32 0), (.int .u32 0), (.int .u32 0), (.int .u32 0), (.int .u32 0), (.int .u32 0), (.int .u32 0), (.int .u32 0), (.int .u32 0), (.int .u32 0), (.int .u32 0), (.int .u32 0), (.int .u32 0), (.int .u32 0), (.int .u32 0), (.int .u32 0), (.int .u32 0), (.int .u32 0), (.int .u32 0), (.int .u32 0), (.int .u32 0), (.int .u32 0), (.int .u32 0), (.int .u32 0), (.int .u32 0), (.int .u32 0), (.int .u32 0), (.int .u32 0), (.int .u32 0), (.int .u32 0), (.int .u32 0), (.int .u32 0), (.int .u32 0), (.int .u32 0), (.int .u32 0), (.int .u32 0), (.int .u32 0), (.int .u32 0), (.int .u32 0), (.int .u32 0), (.int .u32 0), (.int .u32 0), (.int .u32 0), (.int .u32 0), (.int .u32 0), (.int .u32 0), (.int .u32 0), (.int .u32 0), (.int .u32 0), (.int .u32 0), (.int .u32 0), (.int .u32 0), (.int .u32 0), (.int .u32 0), (.int .u32 0), (.int .u32 0), (.int .u32 0), (.int .u32 0), (.int .u32 0)]), none⟩])
  (.seq (.seq (.reg [⟨some 11, .p (.mov (.c (.int .i64 0))), none⟩])
  (.block 0 (.loop (.seq (.reg [⟨some 12, .p (.bin .lss (.t 11) (.c (.int .i64 64))), none⟩])
  (.seq (.cond (.t 12) .skip (.exit 0))
  (.seq (.block 1 (.seq (.reg [⟨some 13, .p (.mov (.t 11)), none⟩,
    ⟨some 4, .p (.mov (.t 13)), none⟩])
  (.seq (.seq (.reg [⟨some 14, .p (.mov (.t 4)), none⟩,
    ⟨some 15, .p (.bin .lss (.t 14) (.c (.int .i64 16))), none⟩])
  (.cond (.t 15) (.seq (.seq (.reg [⟨some 16, .p (.mov (.t 0)), none⟩,
    ⟨some 17, .p (.mov (.t 4)), none⟩,
    ⟨some 18, .p (.bin .mul (.c (.int .i64 4)) (.t 17)), none⟩,
    ⟨some 19, .p (.mov (.t 4)), none⟩,
    ⟨some 20, .p (.bin .mul (.c (.int .i64 4)) (.t 19)), none⟩,
    ⟨some 21, .p (.bin .add (.t 20) (.c (.int .i64 4))), none⟩,
    ⟨some 22, .v (.sub 1 (.t 16) (some (.t 18)) (some (.t 21)) none), none⟩,
    ⟨some 23, .p (.len false (.t 22)), none⟩,
    ⟨some 24, .p (.mov (.c (.int .i64 0))), none⟩])
  (.block 2 (.loop (.seq (.reg [⟨some 25, .p (.bin .lss (.t 24) (.t 23)), none⟩])
  (.seq (.cond (.t 25) .skip (.exit 2))
  (.seq (.block 3 (.seq (.reg [⟨some 26, .p (.idxA 1 none (.t 22) (.t 24)), none⟩,
    ⟨some 27, .h (.load false 1 (.t 26)), none⟩,
    ⟨some 6, .p (.mov (.t 27)), none⟩])
  (.reg [⟨some 28, .p (.mov (.t 4)), none⟩,
    ⟨some 29, .p (.mov (.t 4)), none⟩,
    ⟨some 30, .p (.idxA 1 (some 64) (.t 3) (.t 29)), none⟩,
    ⟨some 31, .h (.load false 1 (.t 30)), none⟩,
    ⟨some 32, .p (.binw .shl (.t 31) (.c (.int .u64 8))), none⟩,
    ⟨some 33, .p (.mov (.t 6)), none⟩,
    ⟨some 34, .p (.conv .u32 (.t 33)), none⟩,
    ⟨some 35, .p (.binw .or (.t 32) (.t 34)), none⟩,
    ⟨some 36, .p (.idxA 1 (some 64) (.t 3) (.t 28)), none⟩,
    ⟨none, .h (.store 1 (.t 36) (.t 35)), none⟩])))
  (.reg [⟨some 37, .p (.bin .add (.t 24) (.c (.int .i64 1))), none⟩,
    ⟨some 24, .p (.mov (.t 37)), none⟩])))))))
  (.exit 1)) .skip))
  (.seq (.draw 10 [] [⟨some 38, .p (.mov (.t 4)), none⟩,
    ⟨some 39, .p (.bin .sub (.t 38) (.c (.int .i64 15))), none⟩,
    ⟨some 40, .p (.idxA 1 (some 64) (.t 3) (.t 39)), none⟩,
    ⟨some 41, .h (.load false 1 (.t 40)), none⟩,
    ⟨some 42, .p (.mov (.t 4)), none⟩,
    ⟨some 43, .p (.bin .sub (.t 42) (.c (.int .i64 2))), none⟩,
    ⟨some 44, .p (.idxA 1 (some 64) (.t 3) (.t 43)), none⟩,
    ⟨some 45, .h (.load false 1 (.t 44)), none⟩,
    ⟨some 7, .p (.mov (.t 41)), none⟩,
    ⟨some 8, .p (.mov (.t 45)), none⟩])
  (.seq (.reg [⟨some 46, .p (.mov (.t 7)), none⟩,
    ⟨some 47, .call 65 [(.t 46), (.c (.int .i64 (-7)))], none⟩,
    ⟨some 48, .p (.mov (.t 7)), none⟩,
    ⟨some 49, .call 65 [(.t 48), (.c (.int .i64 (-18)))], none⟩,
    ⟨some 50, .p (.binw .xor (.t 47) (.t 49)), none⟩,
    ⟨some 51, .p (.mov (.t 7)), none⟩,
    ⟨some 52, .p (.binw .shr (.t 51) (.c (.int .u64 3))), none⟩,
    ⟨some 53, .p (.binw .xor (.t 50) (.t 52)), none⟩,
    ⟨some 9, .p (.mov (.t 53)), none⟩])
  (.seq (.reg [⟨some 54, .p (.mov (.t 8)), none⟩,
    ⟨some 55, .call 65 [(.t 54), (.c (.int .i64 (-17)))], none⟩,
    ⟨some 56, .p (.mov (.t 8)), none⟩,
    ⟨some 57, .call 65 [(.t 56), (.c (.int .i64 (-19)))], none⟩,
    ⟨some 58, .p (.binw .xor (.t 55) (.t 57)), none⟩,
    ⟨some 59, .p (.mov (.t 8)), none⟩,
    ⟨some 60, .p (.binw .shr (.t 59) (.c (.int .u64 10))), none⟩,
    ⟨some 61, .p (.binw .xor (.t 58) (.t 60)), none⟩,
    ⟨some 10, .p (.mov (.t 61)), none⟩])
  (.draw 16 [(4, 15), (10, 15)] [⟨some 62, .p (.mov (.t 4)), none⟩,
    ⟨some 63, .p (.mov (.t 4)), none⟩,
    ⟨some 64, .p (.bin .sub (.t 63) (.c (.int .i64 16))), none⟩,
    ⟨some 65, .p (.idxA 1 (some 64) (.t 3) (.t 64)), none⟩,
    ⟨some 66, .h (.load false 1 (.t 65)), none⟩,
    ⟨some 67, .p (.mov (.t 9)), none⟩,
    ⟨some 68, .p (.binw .add (.t 66) (.t 67)), none⟩,
    ⟨some 69, .p (.mov (.t 4)), none⟩,
    ⟨some 70, .p (.bin .sub (.t 69) (.c (.int .i64 7))), none⟩,
    ⟨some 71, .p (.idxA 1 (some 64) (.t 3) (.t 70)), none⟩,
    ⟨some 72, .h (.load false 1 (.t 71)), none⟩,
    ⟨some 73, .p (.binw .add (.t 68) (.t 72)), none⟩,
    ⟨some 74, .p (.mov (.t 10)), none⟩,
    ⟨some 75, .p (.binw .add (.t 73) (.t 74)), none⟩,
    ⟨some 76, .p (.idxA 1 (some 64) (.t 3) (.t 62)), none⟩,
    ⟨none, .h (.store 1 (.t 76) (.t 75)), none⟩])))))))
  (.reg [⟨some 77, .p (.bin .add (.t 11) (.c (.int .i64 1))), none⟩,
    ⟨some 11, .p (.mov (.t 77)), none⟩])))))))
  (.seq (.reg [⟨some 78, .h (.load true 64 (.t 3)), none⟩,
    ⟨none, .h (.store 64 (.t 2) (.t 78)), none⟩])
  .ret))))
def rs63 : List AR := [.cell 2 true 64]
theorem ok63 : okF Tryd.prog 63 79 ac63 rs63 = true := by kernel_rfl
/-- simulacrum/hash.mix -/
def ac64 : AC := (.seq (.reg [⟨some 8, .p (.mov (.c (.int .u32 0))), none⟩])
  (.seq (.reg [⟨some 9, .p (.mov (.t 0)), none⟩,
    ⟨some 10, .p (.mov (.t 1)), none⟩,
    ⟨some 11, .p (.un .neg (.t 10)), none⟩,
    ⟨some 12, .call 65 [(.t 9), (.t 11)], none⟩,
    ⟨some 13, .p (.mov (.t 0)), none⟩,
    ⟨some 14, .p (.mov (.t 2)), none⟩,
    ⟨some 15, .p (.un .neg (.t 14)), none⟩,
    ⟨some 16, .call 65 [(.t 13), (.t 15)], none⟩,
    ⟨some 17, .p (.binw .xor (.t 12) (.t 16)), none⟩,
    ⟨some 18, .p (.mov (.t 0)), none⟩,
    ⟨some 19, .p (.mov (.t 3)), none⟩,
    ⟨some 20, .p (.un .neg (.t 19)), none⟩,
    ⟨some 21, .call 65 [(.t 18), (.t 20)], none⟩,
    ⟨some 22, .p (.binw .xor (.t 17) (.t 21)), none⟩,
    ⟨some 8, .p (.mov (.t 22)), none⟩])
  .ret))
def rs64 : List AR := [.tmp 8]
theorem ok64 : okF Tryd.prog 64 23 ac64 rs64 = true := by kernel_rfl
/-- math/bits.RotateLeft32 -/
def ac65 : AC := (.seq (.reg [⟨some 4, .p (.mov (.c (.int .u32 0))), none⟩])
  (.seq (.reg [⟨some 6, .p (.mov (.t 1)), none⟩,
    ⟨some 7, .p (.convw .u64 (.t 6)), none⟩,
    ⟨some 8, .p (.binw .and (.t 7) (.c (.int .u64 31))), none⟩,
    ⟨some 5, .p (.mov (.t 8)), none⟩])
  (.seq (.reg [⟨some 9, .p (.mov (.t 0)), none⟩,
    ⟨some 10, .p (.mov (.t 5)), none⟩,
    ⟨some 11, .p (.binw .shl (.t 9) (.t 10)), none⟩,
    ⟨some 12, .p (.mov (.t 0)), none⟩,
    ⟨some 13, .p (.mov (.t 5)), none⟩,
    ⟨some 14, .p (.binw .sub (.c (.int .u64 32)) (.t 13)), none⟩,
    ⟨some 15, .p (.binw .shr (.t 12) (.t 14)), none⟩,
    ⟨some 16, .p (.binw .or (.t 11) (.t 15)), none⟩,
    ⟨some 4, .p (.mov (.t 16)), none⟩])
  .ret)))
def rs65 : List AR := [.tmp 4]
theorem ok65 : okF Tryd.prog 65 17 ac65 rs65 = true := by kernel_rfl
end Go.Proofs

set_option maxRecDepth 100000
namespace Go.Proofs
open Go Go.Eng
/-- simulacrum/simulacrumlaw27.BalloonPlacesAsSpecified -/
def ac3 : AC := (.seq (.reg [⟨some 7, .h (.box (.t 0)), none⟩,
    ⟨some 14, .p (.mov (.c (.bool false))), none⟩])
  (.seq (.seq (.reg [⟨some 29, .p (.fieldA 0 (.t 7)), none⟩,
    ⟨some 30, .h (.load false 1 (.t 29)), none⟩,
    ⟨some 31, .p (.len false (.t 30)), none⟩,
    ⟨some 32, .p (.bin .gtr (.t 31) (.c (.int .i64 80))), none⟩,
    ⟨some 33, .p (.mov (.t 32)), none⟩,
    ⟨some 34, .p (.mov (.t 6)), (some (33, false))⟩,
    ⟨some 35, .p (.len false (.t 34)), (some (33, false))⟩,
    ⟨some 36, .p (.bin .gtr (.t 35) (.c (.int .i64 80))), (some (33, false))⟩,
    ⟨some 37, .p (.pick (.t 33) (.c (.bool true)) (.t 36)), none⟩])
  (.cond (.t 37) (.seq (.reg [⟨some 38, .call 8 [], none⟩,
    ⟨some 14, .p (.mov (.t 38)), none⟩])
  .ret) .skip))
  (.seq (.reg [⟨some 40, .p (.mov (.t 1)), none⟩,
    ⟨some 41, .p (.mov (.t 2)), none⟩,
    ⟨some 42, .call 9 [(.t 40), (.t 41)], none⟩,
    ⟨some 39, .p (.mov (.t 42)), none⟩,
    ⟨some 43, .p (.extract 0 (.t 39)), none⟩,
    ⟨some 44, .p (.extract 1 (.t 39)), none⟩,
    ⟨some 15, .h (.alloc [.nils]), none⟩,
    ⟨none, .h (.store 1 (.t 15) (.t 43)), none⟩,
    ⟨some 16, .p (.mov (.t 44)), none⟩])
  (.seq (.reg [⟨some 45, .p (.mov (.t 1)), none⟩,
    ⟨some 46, .p (.mov (.t 2)), none⟩,
    ⟨some 47, .call 10 [(.t 45), (.t 46)], none⟩,
    ⟨some 17, .h (.alloc [.nils, (.int .i64 0), (.int .i64 0), (.int .i64 0)]), none⟩,
    ⟨none, .h (.store 4 (.t 17) (.t 47)), none⟩])
  (.seq (.seq (.draw 18 [] [⟨some 48, .p (.mov (.t 16)), none⟩,
    ⟨some 49, .p (.fieldA 3 (.t 17)), none⟩,
    ⟨some 50, .h (.load false 1 (.t 49)), none⟩,
    ⟨some 51, .p (.bin .neq (.t 48) (.t 50)), none⟩,
    ⟨some 52, .p (.mov (.t 51)), none⟩,
    ⟨some 53, .h (.load true 1 (.t 15)), (some (52, false))⟩,
    ⟨some 54, .p (.fieldA 0 (.t 17)), (some (52, false))⟩,
    ⟨some 55, .h (.load true 1 (.t 54)), (some (52, false))⟩,
    ⟨some 56, .call 11 [(.t 53), (.t 55)], (some (52, false))⟩,
    ⟨some 57, .p (.un .not (.t 56)), (some (52, false))⟩,
    ⟨some 58, .p (.pick (.t 52) (.c (.bool true)) (.t 57)), none⟩,
    ⟨some 59, .p (.mov (.t 58)), none⟩,
    ⟨some 60, .h (.load true 1 (.t 7)), (some (59, false))⟩,
    ⟨some 61, .call 12 [(.t 60)], (some (59, false))⟩,
    ⟨some 62, .h (.load true 1 (.t 7)), (some (59, false))⟩,
    ⟨some 63, .call 13 [(.t 62)], (some (59, false))⟩,
    ⟨some 64, .p (.beq true (.t 61) (.t 63)), (some (59, false))⟩,
    ⟨some 65, .p (.pick (.t 59) (.c (.bool true)) (.t 64)), none⟩])
  (.cond (.t 65) (.seq (.reg [⟨some 14, .p (.mov (.c (.bool false))), none⟩])
  .ret) .skip))
  (.seq (.seq (.reg [⟨some 66, .h (.load true 1 (.t 7)), none⟩,
    ⟨some 67, .call 13 [(.t 66)], none⟩,
    ⟨some 68, .p (.un .not (.t 67)), none⟩])
  (.cond (.t 68) (.seq (.reg [⟨some 69, .call 8 [], none⟩,
    ⟨some 14, .p (.mov (.t 69)), none⟩])
  .ret) .skip))
  (.seq (.reg [⟨some 71, .h (.load true 1 (.t 7)), none⟩,
    ⟨some 72, .p (.mov (.t 5)), none⟩,
    ⟨some 73, .p (.mov (.t 6)), none⟩,
    ⟨some 74, .call 14 [(.t 71), (.t 72), (.t 73)], none⟩,
    ⟨some 70, .p (.mov (.t 74)), none⟩,
    ⟨some 75, .p (.extract 0 (.t 70)), none⟩,
    ⟨some 76, .p (.extract 1 (.t 70)), none⟩,
    ⟨some 18, .p (.mov (.t 75)), none⟩,
    ⟨some 19, .p (.mov (.t 76)), none⟩])
  (.seq (.reg [⟨some 78, .h (.load true 1 (.t 7)), none⟩,
    ⟨some 79, .p (.mov (.t 3)), none⟩,
    ⟨some 80, .p (.mov (.t 4)), none⟩,
    ⟨some 81, .call 15 [(.t 78), (.t 79), (.t 80)], none⟩,
    ⟨some 77, .p (.mov (.t 81)), none⟩,
    ⟨some 82, .p (.extract 0 (.t 77)), none⟩,
    ⟨some 83, .p (.extract 1 (.t 77)), none⟩,
    ⟨some 20, .h (.alloc [.nils]), none⟩,
    ⟨none, .h (.store 1 (.t 20) (.t 82)), none⟩,
    ⟨some 21, .p (.mov (.t 83)), none⟩])
  (.seq (.reg [⟨some 85, .h (.load true 1 (.t 7)), none⟩,
    ⟨some 86, .p (.mov (.t 3)), none⟩,
    ⟨some 87, .call 16 [(.t 85), (.t 86)], none⟩,
    ⟨some 84, .p (.mov (.t 87)), none⟩,
    ⟨some 88, .p (.extract 0 (.t 84)), none⟩,
    ⟨some 89, .p (.extract 1 (.t 84)), none⟩,
    ⟨some 90, .p (.extract 2 (.t 84)), none⟩,
    ⟨some 22, .h (.alloc [.nils]), none⟩,
    ⟨some 23, .h (.alloc [(.int .i64 0), (.int .i64 0)]), none⟩,
    ⟨none, .h (.store 1 (.t 22) (.t 88)), none⟩,
    ⟨none, .h (.store 2 (.t 23) (.t 89)), none⟩,
    ⟨some 24, .p (.mov (.t 90)), none⟩])
  (.seq (.reg [⟨some 91, .h (.load true 1 (.t 7)), none⟩,
    ⟨some 92, .p (.mov (.t 5)), none⟩,
    ⟨some 93, .p (.mov (.t 6)), none⟩,
    ⟨some 94, .call 17 [(.t 91), (.t 92), (.t 93)], none⟩,
    ⟨some 25, .h (.alloc [(.int .i64 0), (.bool false)]), none⟩,
    ⟨none, .h (.store 2 (.t 25) (.t 94)), none⟩])
  (.seq (.reg [⟨some 95, .h (.load true 1 (.t 7)), none⟩,
    ⟨some 96, .p (.mov (.t 3)), none⟩,
    ⟨some 97, .p (.mov (.t 4)), none⟩,
    ⟨some 98, .call 18 [(.t 95), (.t 96), (.t 97)], none⟩,
    ⟨some 26, .h (.alloc [.nils, (.int .i64 0), (.int .i64 0), (.int .i64 0)]), none⟩,
    ⟨none, .h (.store 4 (.t 26) (.t 98)), none⟩])
  (.seq (.reg [⟨some 99, .h (.load true 1 (.t 7)), none⟩,
    ⟨some 100, .p (.mov (.t 3)), none⟩,
    ⟨some 101, .call 19 [(.t 99), (.t 100)], none⟩,
    ⟨some 27, .h (.alloc [.nils, (.int .i64 0), (.int .i64 0), (.int .i64 0)]), none⟩,
    ⟨none, .h (.store 4 (.t 27) (.t 101)), none⟩])
  (.seq (.reg [⟨some 102, .p (.mov (.t 18)), none⟩,
    ⟨some 103, .p (.fieldA 0 (.t 25)), none⟩,
    ⟨some 104, .h (.load false 1 (.t 103)), none⟩,
    ⟨some 105, .p (.bin .eql (.t 102) (.t 104)), none⟩,
    ⟨some 106, .p (.mov (.t 105)), none⟩,
    ⟨some 107, .p (.mov (.t 19)), (some (106, true))⟩,
    ⟨some 108, .p (.fieldA 1 (.t 25)), (some (106, true))⟩,
    ⟨some 109, .h (.load false 1 (.t 108)), (some (106, true))⟩,
    ⟨some 110, .p (.beq false (.t 107) (.t 109)), (some (106, true))⟩,
    ⟨some 111, .p (.pick (.t 106) (.t 110) (.c (.bool false))), none⟩,
    ⟨some 112, .p (.mov (.t 111)), none⟩,
    ⟨some 113, .h (.load true 1 (.t 20)), (some (112, true))⟩,
    ⟨some 114, .p (.fieldA 0 (.t 26)), (some (112, true))⟩,
    ⟨some 115, .h (.load true 1 (.t 114)), (some (112, true))⟩,
    ⟨some 116, .call 11 [(.t 113), (.t 115)], (some (112, true))⟩,
    ⟨some 117, .p (.pick (.t 112) (.t 116) (.c (.bool false))), none⟩,
    ⟨some 118, .p (.mov (.t 117)), none⟩,
    ⟨some 119, .p (.mov (.t 21)), (some (118, true))⟩,
    ⟨some 120, .p (.fieldA 3 (.t 26)), (some (118, true))⟩,
    ⟨some 121, .h (.load false 1 (.t 120)), (some (118, true))⟩,
    ⟨some 122, .p (.bin .eql (.t 119) (.t 121)), (some (118, true))⟩,
    ⟨some 123, .p (.pick (.t 118) (.t 122) (.c (.bool false))), none⟩,
    ⟨some 124, .p (.mov (.t 123)), none⟩,
    ⟨some 125, .h (.load true 1 (.t 22)), (some (124, true))⟩,
    ⟨some 126, .p (.fieldA 0 (.t 27)), (some (124, true))⟩,
    ⟨some 127, .h (.load true 1 (.t 126)), (some (124, true))⟩,
    ⟨some 128, .call 11 [(.t 125), (.t 127)], (some (124, true))⟩,
    ⟨some 129, .p (.pick (.t 124) (.t 128) (.c (.bool false))), none⟩,
    ⟨some 130, .p (.mov (.t 129)), none⟩,
    ⟨some 131, .h (.load true 2 (.t 23)), (some (130, true))⟩,
    ⟨some 132, .p (.fieldA 1 (.t 27)), (some (130, true))⟩,
    ⟨some 133, .h (.load true 2 (.t 132)), (some (130, true))⟩,
    ⟨some 134, .v (.eqa false [(.i .i64), (.i .i64)] (.t 131) (.t 133)), (some (130, true))⟩,
    ⟨some 135, .p (.pick (.t 130) (.t 134) (.c (.bool false))), none⟩,
    ⟨some 136, .p (.mov (.t 135)), none⟩,
    ⟨some 137, .p (.mov (.t 24)), (some (136, true))⟩,
    ⟨some 138, .p (.fieldA 3 (.t 27)), (some (136, true))⟩,
    ⟨some 139, .h (.load false 1 (.t 138)), (some (136, true))⟩,
    ⟨some 140, .p (.bin .eql (.t 137) (.t 139)), (some (136, true))⟩,
    ⟨some 141, .p (.pick (.t 136) (.t 140) (.c (.bool false))), none⟩,
    ⟨some 28, .p (.mov (.t 141)), none⟩])
  (.seq (.draw 14 [] [⟨some 142, .call 8 [], none⟩,
    ⟨some 143, .p (.mov (.t 142)), none⟩,
    ⟨some 144, .p (.mov (.t 28)), (some (143, true))⟩,
    ⟨some 145, .p (.pick (.t 143) (.t 144) (.c (.bool false))), none⟩,
    ⟨some 146, .p (.mov (.t 145)), none⟩,
    ⟨some 147, .h (.load true 1 (.t 7)), (some (146, true))⟩,
    ⟨some 148, .p (.mov (.t 2)), (some (146, true))⟩,
    ⟨some 149, .call 20 [(.t 147), (.t 148)], (some (146, true))⟩,
    ⟨some 150, .h (.load true 1 (.t 7)), (some (146, true))⟩,
    ⟨some 151, .p (.mov (.t 2)), (some (146, true))⟩,
    ⟨some 152, .call 21 [(.t 150), (.t 151)], (some (146, true))⟩,
    ⟨some 153, .p (.bin .eql (.t 149) (.t 152)), (some (146, true))⟩,
    ⟨some 154, .p (.pick (.t 146) (.t 153) (.c (.bool false))), none⟩,
    ⟨some 14, .p (.mov (.t 154)), none⟩])
  .ret))))))))))))))
def rs3 : List AR := [.tmp 14]
theorem ok3 : okF Tryd.prog 3 155 ac3 rs3 = true := by kernel_rfl
/-- simulacrum/simulacrumlaw27.BalloonMovesOnePage -/
def ac4 : AC := (.seq (.reg [⟨some 4, .h (.box (.t 0)), none⟩,
    ⟨some 8, .p (.mov (.c (.bool false))), none⟩])
  (.seq (.seq (.reg [⟨some 23, .h (.load true 1 (.t 4)), none⟩,
    ⟨some 24, .call 13 [(.t 23)], none⟩,
    ⟨some 25, .p (.un .not (.t 24)), none⟩])
  (.cond (.t 25) (.seq (.reg [⟨some 26, .call 8 [], none⟩,
    ⟨some 8, .p (.mov (.t 26)), none⟩])
  .ret) .skip))
  (.seq (.reg [⟨some 27, .p (.mov (.t 1)), none⟩,
    ⟨some 28, .p (.conv .i64 (.t 27)), none⟩,
    ⟨some 29, .p (.fieldA 0 (.t 4)), none⟩,
    ⟨some 30, .h (.load false 1 (.t 29)), none⟩,
    ⟨some 31, .p (.len false (.t 30)), none⟩,
    ⟨some 32, .p (.bin .rem (.t 28) (.t 31)), none⟩,
    ⟨some 9, .p (.mov (.t 32)), none⟩])
  (.seq (.reg [⟨some 33, .p (.mov (.t 2)), none⟩,
    ⟨some 34, .p (.conv .i64 (.t 33)), none⟩,
    ⟨some 10, .p (.mov (.t 34)), none⟩])
  (.seq (.seq (.reg [⟨some 11, .p (.mov (.c (.int .i64 0))), none⟩])
  (.block 0 (.loop (.seq (.seq (.reg [⟨some 35, .p (.mov (.t 11)), none⟩,
    ⟨some 36, .p (.fieldA 0 (.t 4)), none⟩,
    ⟨some 37, .h (.load false 1 (.t 36)), none⟩,
    ⟨some 38, .p (.len false (.t 37)), none⟩,
    ⟨some 39, .p (.bin .lss (.t 35) (.t 38)), none⟩])
  (.cond (.t 39) .skip (.exit 0)))
  (.seq (.block 1 (.seq (.reg [⟨some 42, .p (.fieldA 0 (.t 4)), none⟩,
    ⟨some 43, .h (.load false 1 (.t 42)), none⟩,
    ⟨some 44, .p (.mov (.t 11)), none⟩,
    ⟨some 45, .p (.idxA 2 none (.t 43) (.t 44)), none⟩,
    ⟨some 46, .p (.fieldA 0 (.t 45)), none⟩,
    ⟨some 47, .h (.load false 1 (.t 46)), none⟩,
    ⟨some 48, .p (.bin .eql (.t 47) (.c (.int .i64 3))), none⟩,
    ⟨some 49, .p (.mov (.t 48)), none⟩,
    ⟨some 50, .p (.fieldA 0 (.t 4)), (some (49, true))⟩,
    ⟨some 51, .h (.load false 1 (.t 50)), (some (49, true))⟩,
    ⟨some 52, .p (.mov (.t 11)), (some (49, true))⟩,
    ⟨some 53, .p (.idxA 2 none (.t 51) (.t 52)), (some (49, true))⟩,
    ⟨some 54, .p (.fieldA 1 (.t 53)), (some (49, true))⟩,
    ⟨some 55, .h (.load false 1 (.t 54)), (some (49, true))⟩,
    ⟨some 56, .p (.mov (.t 10)), (some (49, true))⟩,
    ⟨some 57, .p (.bin .eql (.t 55) (.t 56)), (some (49, true))⟩,
    ⟨some 58, .p (.pick (.t 49) (.t 57) (.c (.bool false))), none⟩])
  (.cond (.t 58) (.seq (.reg [⟨some 59, .call 8 [], none⟩,
    ⟨some 8, .p (.mov (.t 59)), none⟩])
  .ret) .skip)))
  (.reg [⟨some 40, .p (.mov (.t 11)), none⟩,
    ⟨some 41, .p (.bin .add (.t 40) (.c (.int .i64 1))), none⟩,
    ⟨some 11, .p (.mov (.t 41)), none⟩]))))))
  (.seq (.reg [⟨some 60, .p (.mov (.t 10)), none⟩,
    ⟨some 61, .v (.build [(.int .i64 0), (.int .i64 0)] [(0, 1, (.c (.int .i64 3))), (1, 1, (.t 60))]), none⟩,
    ⟨some 12, .h (.alloc [(.int .i64 0), (.int .i64 0)]), none⟩,
    ⟨none, .h (.store 2 (.t 12) (.t 61)), none⟩])
  (.seq (.seq (.reg [⟨some 62, .p (.mov (.t 3)), none⟩])
  (.cond (.t 62) (.seq (.reg [⟨some 10, .p (.mov (.c (.int .i64 (-1)))), none⟩])
  (.reg [⟨some 63, .v (.build [(.int .i64 0), (.int .i64 0)] [(0, 1, (.c (.int .i64 2)))]), none⟩,
    ⟨none, .h (.store 2 (.t 12) (.t 63)), none⟩])) .skip))
  (.seq (.reg [⟨some 65, .h (.load true 1 (.t 4)), none⟩,
    ⟨some 66, .p (.mov (.t 9)), none⟩,
    ⟨some 67, .p (.mov (.t 10)), none⟩,
    ⟨some 68, .call 15 [(.t 65), (.t 66), (.t 67)], none⟩,
    ⟨some 64, .p (.mov (.t 68)), none⟩,
    ⟨some 69, .p (.extract 0 (.t 64)), none⟩,
    ⟨some 70, .p (.extract 1 (.t 64)), none⟩,
    ⟨some 13, .h (.alloc [.nils]), none⟩,
    ⟨none, .h (.store 1 (.t 13) (.t 69)), none⟩,
    ⟨some 14, .p (.mov (.t 70)), none⟩])
  (.seq (.reg [⟨some 72, .h (.load true 1 (.t 4)), none⟩,
    ⟨some 73, .p (.mov (.t 9)), none⟩,
    ⟨some 74, .call 16 [(.t 72), (.t 73)], none⟩,
    ⟨some 71, .p (.mov (.t 74)), none⟩,
    ⟨some 75, .p (.extract 0 (.t 71)), none⟩,
    ⟨some 76, .p (.extract 1 (.t 71)), none⟩,
    ⟨some 77, .p (.extract 2 (.t 71)), none⟩,
    ⟨some 15, .h (.alloc [.nils]), none⟩,
    ⟨some 16, .h (.alloc [(.int .i64 0), (.int .i64 0)]), none⟩,
    ⟨none, .h (.store 1 (.t 15) (.t 75)), none⟩,
    ⟨none, .h (.store 2 (.t 16) (.t 76)), none⟩,
    ⟨some 17, .p (.mov (.t 77)), none⟩])
  (.seq (.seq (.reg [⟨some 78, .p (.fieldA 0 (.t 4)), none⟩,
    ⟨some 79, .h (.load false 1 (.t 78)), none⟩,
    ⟨some 80, .p (.mov (.t 9)), none⟩,
    ⟨some 81, .p (.idxA 2 none (.t 79) (.t 80)), none⟩,
    ⟨some 82, .p (.fieldA 0 (.t 81)), none⟩,
    ⟨some 83, .h (.load false 1 (.t 82)), none⟩,
    ⟨some 84, .p (.bin .neq (.t 83) (.c (.int .i64 1))), none⟩])
  (.cond (.t 84) (.seq (.seq (.reg [⟨some 18, .p (.mov (.c (.int .i64 0))), none⟩])
  (.block 2 (.loop (.seq (.seq (.reg [⟨some 85, .p (.mov (.t 18)), none⟩,
    ⟨some 86, .p (.fieldA 0 (.t 4)), none⟩,
    ⟨some 87, .h (.load false 1 (.t 86)), none⟩,
    ⟨some 88, .p (.len false (.t 87)), none⟩,
    ⟨some 89, .p (.bin .lss (.t 85) (.t 88)), none⟩])
  (.cond (.t 89) .skip (.exit 2)))
  (.seq (.block 3 (.seq (.draw 39 [] [⟨some 92, .p (.fieldA 0 (.t 15)), none⟩,
    ⟨some 93, .h (.load false 1 (.t 92)), none⟩,
    ⟨some 94, .p (.len false (.t 93)), none⟩,
    ⟨some 95, .p (.fieldA 0 (.t 4)), none⟩,
    ⟨some 96, .h (.load false 1 (.t 95)), none⟩,
    ⟨some 97, .p (.len false (.t 96)), none⟩,
    ⟨some 98, .p (.bin .neq (.t 94) (.t 97)), none⟩,
    ⟨some 99, .p (.mov (.t 98)), none⟩,
    ⟨some 100, .p (.mov (.t 18)), (some (99, false))⟩,
    ⟨some 101, .p (.mov (.t 9)), (some (99, false))⟩,
    ⟨some 102, .p (.bin .neq (.t 100) (.t 101)), (some (99, false))⟩,
    ⟨some 103, .p (.mov (.t 102)), (some (99, false))⟩,
    ⟨some 104, .p (.fieldA 0 (.t 15)), (some (103, true))⟩,
    ⟨some 105, .h (.load false 1 (.t 104)), (some (103, true))⟩,
    ⟨some 106, .p (.mov (.t 18)), (some (103, true))⟩,
    ⟨some 107, .p (.idxA 2 none (.t 105) (.t 106)), (some (103, true))⟩,
    ⟨some 108, .h (.load true 2 (.t 107)), (some (103, true))⟩,
    ⟨some 109, .p (.fieldA 0 (.t 4)), (some (103, true))⟩,
    ⟨some 110, .h (.load false 1 (.t 109)), (some (103, true))⟩,
    ⟨some 111, .p (.mov (.t 18)), (some (103, true))⟩,
    ⟨some 112, .p (.idxA 2 none (.t 110) (.t 111)), (some (103, true))⟩,
    ⟨some 113, .h (.load true 2 (.t 112)), (some (103, true))⟩,
    ⟨some 114, .v (.eqa true [(.i .i64), (.i .i64)] (.t 108) (.t 113)), (some (103, true))⟩,
    ⟨some 115, .p (.pick (.t 103) (.t 114) (.c (.bool false))), (some (99, false))⟩,
    ⟨some 116, .p (.pick (.t 99) (.c (.bool true)) (.t 115)), none⟩,
    ⟨some 117, .p (.mov (.t 116)), none⟩,
    ⟨some 118, .p (.mov (.t 18)), (some (117, false))⟩,
    ⟨some 119, .p (.mov (.t 9)), (some (117, false))⟩,
    ⟨some 120, .p (.bin .eql (.t 118) (.t 119)), (some (117, false))⟩,
    ⟨some 121, .p (.mov (.t 120)), (some (117, false))⟩,
    ⟨some 122, .p (.fieldA 0 (.t 15)), (some (121, true))⟩,
    ⟨some 123, .h (.load false 1 (.t 122)), (some (121, true))⟩,
    ⟨some 124, .p (.mov (.t 18)), (some (121, true))⟩,
    ⟨some 125, .p (.idxA 2 none (.t 123) (.t 124)), (some (121, true))⟩,
    ⟨some 126, .p (.fieldA 0 (.t 125)), (some (121, true))⟩,
    ⟨some 127, .h (.load false 1 (.t 126)), (some (121, true))⟩,
    ⟨some 128, .p (.bin .neq (.t 127) (.c (.int .i64 1))), (some (121, true))⟩,
    ⟨some 129, .p (.pick (.t 121) (.t 128) (.c (.bool false))), (some (117, false))⟩,
    ⟨some 130, .p (.pick (.t 117) (.c (.bool true)) (.t 129)), none⟩])
  (.cond (.t 130) (.seq (.reg [⟨some 8, .p (.mov (.c (.bool false))), none⟩])
  .ret) .skip)))
  (.reg [⟨some 90, .p (.mov (.t 18)), none⟩,
    ⟨some 91, .p (.bin .add (.t 90) (.c (.int .i64 1))), none⟩,
    ⟨some 18, .p (.mov (.t 91)), none⟩]))))))
  (.seq (.draw 28 [] [⟨some 131, .call 8 [], none⟩,
    ⟨some 132, .p (.mov (.t 131)), none⟩,
    ⟨some 133, .p (.mov (.t 14)), (some (132, true))⟩,
    ⟨some 134, .p (.bin .eql (.t 133) (.c (.int .i64 4))), (some (132, true))⟩,
    ⟨some 135, .p (.pick (.t 132) (.t 134) (.c (.bool false))), none⟩,
    ⟨some 136, .p (.mov (.t 135)), none⟩,
    ⟨some 137, .h (.load true 1 (.t 13)), (some (136, true))⟩,
    ⟨some 138, .h (.load true 1 (.t 4)), (some (136, true))⟩,
    ⟨some 139, .call 11 [(.t 137), (.t 138)], (some (136, true))⟩,
    ⟨some 140, .p (.pick (.t 136) (.t 139) (.c (.bool false))), none⟩,
    ⟨some 141, .p (.mov (.t 140)), none⟩,
    ⟨some 142, .p (.mov (.t 17)), (some (141, true))⟩,
    ⟨some 143, .p (.bin .eql (.t 142) (.c (.int .i64 0))), (some (141, true))⟩,
    ⟨some 144, .p (.pick (.t 141) (.t 143) (.c (.bool false))), none⟩,
    ⟨some 145, .p (.mov (.t 144)), none⟩,
    ⟨some 146, .h (.load true 2 (.t 16)), (some (145, true))⟩,
    ⟨some 147, .p (.fieldA 0 (.t 4)), (some (145, true))⟩,
    ⟨some 148, .h (.load false 1 (.t 147)), (some (145, true))⟩,
    ⟨some 149, .p (.mov (.t 9)), (some (145, true))⟩,
    ⟨some 150, .p (.idxA 2 none (.t 148) (.t 149)), (some (145, true))⟩,
    ⟨some 151, .h (.load true 2 (.t 150)), (some (145, true))⟩,
    ⟨some 152, .v (.eqa false [(.i .i64), (.i .i64)] (.t 146) (.t 151)), (some (145, true))⟩,
    ⟨some 153, .p (.pick (.t 145) (.t 152) (.c (.bool false))), none⟩,
    ⟨some 154, .p (.mov (.t 153)), none⟩,
    ⟨some 155, .h (.load true 1 (.t 15)), (some (154, true))⟩,
    ⟨some 156, .call 12 [(.t 155)], (some (154, true))⟩,
    ⟨some 157, .p (.pick (.t 154) (.t 156) (.c (.bool false))), none⟩,
    ⟨some 8, .p (.mov (.t 157)), none⟩])
  .ret)) .skip))
  (.seq (.seq (.reg [⟨some 158, .p (.mov (.t 14)), none⟩,
    ⟨some 159, .p (.bin .neq (.t 158) (.c (.int .i64 0))), none⟩,
    ⟨some 160, .p (.mov (.t 159)), none⟩,
    ⟨some 161, .p (.mov (.t 17)), (some (160, false))⟩,
    ⟨some 162, .p (.bin .neq (.t 161) (.c (.int .i64 4))), (some (160, false))⟩,
    ⟨some 163, .p (.pick (.t 160) (.c (.bool true)) (.t 162)), none⟩,
    ⟨some 164, .p (.mov (.t 163)), none⟩,
    ⟨some 165, .p (.fieldA 0 (.t 13)), (some (164, false))⟩,
    ⟨some 166, .h (.load false 1 (.t 165)), (some (164, false))⟩,
    ⟨some 167, .p (.len false (.t 166)), (some (164, false))⟩,
    ⟨some 168, .p (.fieldA 0 (.t 4)), (some (164, false))⟩,
    ⟨some 169, .h (.load false 1 (.t 168)), (some (164, false))⟩,
    ⟨some 170, .p (.len false (.t 169)), (some (164, false))⟩,
    ⟨some 171, .p (.bin .neq (.t 167) (.t 170)), (some (164, false))⟩,
    ⟨some 172, .p (.pick (.t 164) (.c (.bool true)) (.t 171)), none⟩,
    ⟨some 173, .p (.mov (.t 172)), none⟩,
    ⟨some 174, .h (.load true 1 (.t 13)), (some (173, false))⟩,
    ⟨some 175, .call 12 [(.t 174)], (some (173, false))⟩,
    ⟨some 176, .p (.un .not (.t 175)), (some (173, false))⟩,
    ⟨some 177, .p (.pick (.t 173) (.c (.bool true)) (.t 176)), none⟩])
  (.cond (.t 177) (.seq (.reg [⟨some 8, .p (.mov (.c (.bool false))), none⟩])
  .ret) .skip))
  (.seq (.seq (.reg [⟨some 19, .p (.mov (.c (.int .i64 0))), none⟩])
  (.block 4 (.loop (.seq (.seq (.reg [⟨some 178, .p (.mov (.t 19)), none⟩,
    ⟨some 179, .p (.fieldA 0 (.t 4)), none⟩,
    ⟨some 180, .h (.load false 1 (.t 179)), none⟩,
    ⟨some 181, .p (.len false (.t 180)), none⟩,
    ⟨some 182, .p (.bin .lss (.t 178) (.t 181)), none⟩])
  (.cond (.t 182) .skip (.exit 4)))
  (.seq (.block 5 (.seq (.draw 30 [] [⟨some 185, .p (.mov (.t 19)), none⟩,
    ⟨some 186, .p (.mov (.t 9)), none⟩,
    ⟨some 187, .p (.bin .neq (.t 185) (.t 186)), none⟩,
    ⟨some 188, .p (.mov (.t 187)), none⟩,
    ⟨some 189, .p (.fieldA 0 (.t 13)), (some (188, true))⟩,
    ⟨some 190, .h (.load false 1 (.t 189)), (some (188, true))⟩,
    ⟨some 191, .p (.mov (.t 19)), (some (188, true))⟩,
    ⟨some 192, .p (.idxA 2 none (.t 190) (.t 191)), (some (188, true))⟩,
    ⟨some 193, .h (.load true 2 (.t 192)), (some (188, true))⟩,
    ⟨some 194, .p (.fieldA 0 (.t 4)), (some (188, true))⟩,
    ⟨some 195, .h (.load false 1 (.t 194)), (some (188, true))⟩,
    ⟨some 196, .p (.mov (.t 19)), (some (188, true))⟩,
    ⟨some 197, .p (.idxA 2 none (.t 195) (.t 196)), (some (188, true))⟩,
    ⟨some 198, .h (.load true 2 (.t 197)), (some (188, true))⟩,
    ⟨some 199, .v (.eqa true [(.i .i64), (.i .i64)] (.t 193) (.t 198)), (some (188, true))⟩,
    ⟨some 200, .p (.pick (.t 188) (.t 199) (.c (.bool false))), none⟩,
    ⟨some 201, .p (.mov (.t 200)), none⟩,
    ⟨some 202, .p (.mov (.t 19)), (some (201, false))⟩,
    ⟨some 203, .p (.mov (.t 9)), (some (201, false))⟩,
    ⟨some 204, .p (.bin .eql (.t 202) (.t 203)), (some (201, false))⟩,
    ⟨some 205, .p (.mov (.t 204)), (some (201, false))⟩,
    ⟨some 206, .p (.fieldA 0 (.t 13)), (some (205, true))⟩,
    ⟨some 207, .h (.load false 1 (.t 206)), (some (205, true))⟩,
    ⟨some 208, .p (.mov (.t 19)), (some (205, true))⟩,
    ⟨some 209, .p (.idxA 2 none (.t 207) (.t 208)), (some (205, true))⟩,
    ⟨some 210, .h (.load true 2 (.t 209)), (some (205, true))⟩,
    ⟨some 211, .h (.load true 2 (.t 12)), (some (205, true))⟩,
    ⟨some 212, .v (.eqa true [(.i .i64), (.i .i64)] (.t 210) (.t 211)), (some (205, true))⟩,
    ⟨some 213, .p (.pick (.t 205) (.t 212) (.c (.bool false))), (some (201, false))⟩,
    ⟨some 214, .p (.pick (.t 201) (.c (.bool true)) (.t 213)), none⟩])
  (.cond (.t 214) (.seq (.reg [⟨some 8, .p (.mov (.c (.bool false))), none⟩])
  .ret) .skip)))
  (.reg [⟨some 183, .p (.mov (.t 19)), none⟩,
    ⟨some 184, .p (.bin .add (.t 183) (.c (.int .i64 1))), none⟩,
    ⟨some 19, .p (.mov (.t 184)), none⟩]))))))
  (.seq (.reg [⟨some 216, .h (.load true 1 (.t 13)), none⟩,
    ⟨some 217, .p (.mov (.t 9)), none⟩,
    ⟨some 218, .call 16 [(.t 216), (.t 217)], none⟩,
    ⟨some 215, .p (.mov (.t 218)), none⟩,
    ⟨some 219, .p (.extract 0 (.t 215)), none⟩,
    ⟨some 220, .p (.extract 1 (.t 215)), none⟩,
    ⟨some 221, .p (.extract 2 (.t 215)), none⟩,
    ⟨some 20, .h (.alloc [.nils]), none⟩,
    ⟨some 21, .h (.alloc [(.int .i64 0), (.int .i64 0)]), none⟩,
    ⟨none, .h (.store 1 (.t 20) (.t 219)), none⟩,
    ⟨none, .h (.store 2 (.t 21) (.t 220)), none⟩,
    ⟨some 22, .p (.mov (.t 221)), none⟩])
  (.seq (.reg [⟨some 222, .call 8 [], none⟩,
    ⟨some 223, .p (.mov (.t 222)), none⟩,
    ⟨some 224, .p (.mov (.t 22)), (some (223, true))⟩,
    ⟨some 225, .p (.bin .eql (.t 224) (.c (.int .i64 0))), (some (223, true))⟩,
    ⟨some 226, .p (.pick (.t 223) (.t 225) (.c (.bool false))), none⟩,
    ⟨some 227, .p (.mov (.t 226)), none⟩,
    ⟨some 228, .h (.load true 2 (.t 21)), (some (227, true))⟩,
    ⟨some 229, .h (.load true 2 (.t 12)), (some (227, true))⟩,
    ⟨some 230, .v (.eqa false [(.i .i64), (.i .i64)] (.t 228) (.t 229)), (some (227, true))⟩,
    ⟨some 231, .p (.pick (.t 227) (.t 230) (.c (.bool false))), none⟩,
    ⟨some 232, .p (.mov (.t 231)), none⟩,
    ⟨some 233, .h (.load true 1 (.t 20)), (some (232, true))⟩,
    ⟨some 234, .h (.load true 1 (.t 4)), (some (232, true))⟩,
    ⟨some 235, .call 11 [(.t 233), (.t 234)], (some (232, true))⟩,
    ⟨some 236, .p (.pick (.t 232) (.t 235) (.c (.bool false))), none⟩,
    ⟨some 8, .p (.mov (.t 236)), none⟩])
  .ret))))))))))))))
def rs4 : List AR := [.tmp 8]
theorem ok4 : okF Tryd.prog 4 237 ac4 rs4 = true := by kernel_rfl
/-- simulacrum/simulacrumlaw27.BalloonVictimIsPresent -/
def ac5 : AC := (.seq (.reg [⟨some 3, .h (.box (.t 0)), none⟩,
    ⟨some 6, .p (.mov (.c (.bool false))), none⟩])
  (.seq (.seq (.reg [⟨some 12, .h (.load true 1 (.t 3)), none⟩,
    ⟨some 13, .call 13 [(.t 12)], none⟩,
    ⟨some 14, .p (.un .not (.t 13)), none⟩,
    ⟨some 15, .p (.mov (.t 14)), none⟩,
    ⟨some 16, .p (.mov (.t 2)), (some (15, false))⟩,
    ⟨some 17, .p (.len false (.t 16)), (some (15, false))⟩,
    ⟨some 18, .p (.bin .gtr (.t 17) (.c (.int .i64 80))), (some (15, false))⟩,
    ⟨some 19, .p (.pick (.t 15) (.c (.bool true)) (.t 18)), none⟩])
  (.cond (.t 19) (.seq (.reg [⟨some 20, .call 8 [], none⟩,
    ⟨some 6, .p (.mov (.t 20)), none⟩])
  .ret) .skip))
  (.seq (.reg [⟨some 22, .h (.load true 1 (.t 3)), none⟩,
    ⟨some 23, .p (.mov (.t 1)), none⟩,
    ⟨some 24, .p (.mov (.t 2)), none⟩,
    ⟨some 25, .call 14 [(.t 22), (.t 23), (.t 24)], none⟩,
    ⟨some 21, .p (.mov (.t 25)), none⟩,
    ⟨some 26, .p (.extract 0 (.t 21)), none⟩,
    ⟨some 27, .p (.extract 1 (.t 21)), none⟩,
    ⟨some 7, .p (.mov (.t 26)), none⟩,
    ⟨some 8, .p (.mov (.t 27)), none⟩])
  (.seq (.reg [⟨some 9, .p (.mov (.c (.int .i64 0))), none⟩])
  (.seq (.seq (.reg [⟨some 10, .p (.mov (.c (.int .i64 0))), none⟩])
  (.block 0 (.loop (.seq (.seq (.reg [⟨some 28, .p (.mov (.t 10)), none⟩,
    ⟨some 29, .p (.fieldA 0 (.t 3)), none⟩,
    ⟨some 30, .h (.load false 1 (.t 29)), none⟩,
    ⟨some 31, .p (.len false (.t 30)), none⟩,
    ⟨some 32, .p (.bin .lss (.t 28) (.t 31)), none⟩])
  (.cond (.t 32) .skip (.exit 0)))
  (.seq (.block 1 (.seq (.reg [⟨some 35, .p (.fieldA 0 (.t 3)), none⟩,
    ⟨some 36, .h (.load false 1 (.t 35)), none⟩,
    ⟨some 37, .p (.mov (.t 10)), none⟩,
    ⟨some 38, .p (.idxA 2 none (.t 36) (.t 37)), none⟩,
    ⟨some 39, .p (.fieldA 0 (.t 38)), none⟩,
    ⟨some 40, .h (.load false 1 (.t 39)), none⟩,
    ⟨some 41, .p (.bin .eql (.t 40) (.c (.int .i64 1))), none⟩,
    ⟨some 42, .p (.mov (.t 41)), none⟩,
    ⟨some 43, .p (.mov (.t 10)), (some (42, true))⟩,
    ⟨some 44, .p (.mov (.t 2)), (some (42, true))⟩,
    ⟨some 45, .p (.len false (.t 44)), (some (42, true))⟩,
    ⟨some 46, .p (.bin .geq (.t 43) (.t 45)), (some (42, true))⟩,
    ⟨some 47, .p (.mov (.t 46)), (some (42, true))⟩,
    ⟨some 48, .p (.mov (.t 2)), (some (47, false))⟩,
    ⟨some 49, .p (.mov (.t 10)), (some (47, false))⟩,
    ⟨some 50, .p (.idxA 1 none (.t 48) (.t 49)), (some (47, false))⟩,
    ⟨some 51, .h (.load false 1 (.t 50)), (some (47, false))⟩,
    ⟨some 52, .p (.un .not (.t 51)), (some (47, false))⟩,
    ⟨some 53, .p (.pick (.t 47) (.c (.bool true)) (.t 52)), (some (42, true))⟩,
    ⟨some 54, .p (.pick (.t 42) (.t 53) (.c (.bool false))), none⟩])
  (.cond (.t 54) (.reg [⟨some 55, .p (.mov (.t 9)), none⟩,
    ⟨some 56, .p (.bin .add (.t 55) (.c (.int .i64 1))), none⟩,
    ⟨some 9, .p (.mov (.t 56)), none⟩]) .skip)))
  (.reg [⟨some 33, .p (.mov (.t 10)), none⟩,
    ⟨some 34, .p (.bin .add (.t 33) (.c (.int .i64 1))), none⟩,
    ⟨some 10, .p (.mov (.t 34)), none⟩]))))))
  (.seq (.seq (.reg [⟨some 57, .p (.mov (.t 8)), none⟩,
    ⟨some 58, .h (.load true 1 (.t 3)), none⟩,
    ⟨some 59, .call 20 [(.t 58), (.c (.int .i64 1))], none⟩,
    ⟨some 60, .p (.bin .gtr (.t 59) (.c (.int .i64 0))), none⟩,
    ⟨some 61, .p (.beq true (.t 57) (.t 60)), none⟩,
    ⟨some 62, .p (.mov (.t 61)), none⟩,
    ⟨some 63, .p (.mov (.t 7)), (some (62, false))⟩,
    ⟨some 64, .p (.bin .lss (.t 63) (.c (.int .i64 0))), (some (62, false))⟩,
    ⟨some 65, .p (.pick (.t 62) (.c (.bool true)) (.t 64)), none⟩,
    ⟨some 66, .p (.mov (.t 65)), none⟩,
    ⟨some 67, .p (.mov (.t 7)), (some (66, false))⟩,
    ⟨some 68, .p (.fieldA 0 (.t 3)), (some (66, false))⟩,
    ⟨some 69, .h (.load false 1 (.t 68)), (some (66, false))⟩,
    ⟨some 70, .p (.len false (.t 69)), (some (66, false))⟩,
    ⟨some 71, .p (.bin .geq (.t 67) (.t 70)), (some (66, false))⟩,
    ⟨some 72, .p (.pick (.t 66) (.c (.bool true)) (.t 71)), none⟩])
  (.cond (.t 72) (.seq (.reg [⟨some 6, .p (.mov (.c (.bool false))), none⟩])
  .ret) .skip))
  (.seq (.reg [⟨some 73, .p (.mov (.t 7)), none⟩,
    ⟨some 74, .p (.mov (.t 2)), none⟩,
    ⟨some 75, .p (.len false (.t 74)), none⟩,
    ⟨some 76, .p (.bin .lss (.t 73) (.t 75)), none⟩,
    ⟨some 77, .p (.mov (.t 76)), none⟩,
    ⟨some 78, .p (.mov (.t 2)), (some (77, true))⟩,
    ⟨some 79, .p (.mov (.t 7)), (some (77, true))⟩,
    ⟨some 80, .p (.idxA 1 none (.t 78) (.t 79)), (some (77, true))⟩,
    ⟨some 81, .h (.load false 1 (.t 80)), (some (77, true))⟩,
    ⟨some 82, .p (.pick (.t 77) (.t 81) (.c (.bool false))), none⟩,
    ⟨some 11, .p (.mov (.t 82)), none⟩])
  (.seq (.reg [⟨some 83, .call 8 [], none⟩,
    ⟨some 84, .p (.mov (.t 83)), none⟩,
    ⟨some 85, .p (.mov (.t 8)), (some (84, true))⟩,
    ⟨some 86, .p (.un .not (.t 85)), (some (84, true))⟩,
    ⟨some 87, .p (.mov (.t 86)), (some (84, true))⟩,
    ⟨some 88, .p (.fieldA 0 (.t 3)), (some (87, false))⟩,
    ⟨some 89, .h (.load false 1 (.t 88)), (some (87, false))⟩,
    ⟨some 90, .p (.mov (.t 7)), (some (87, false))⟩,
    ⟨some 91, .p (.idxA 2 none (.t 89) (.t 90)), (some (87, false))⟩,
    ⟨some 92, .p (.fieldA 0 (.t 91)), (some (87, false))⟩,
    ⟨some 93, .h (.load false 1 (.t 92)), (some (87, false))⟩,
    ⟨some 94, .p (.bin .eql (.t 93) (.c (.int .i64 1))), (some (87, false))⟩,
    ⟨some 95, .p (.mov (.t 94)), (some (87, false))⟩,
    ⟨some 96, .p (.mov (.t 11)), (some (95, true))⟩,
    ⟨some 97, .p (.mov (.t 9)), (some (95, true))⟩,
    ⟨some 98, .p (.bin .eql (.t 97) (.c (.int .i64 0))), (some (95, true))⟩,
    ⟨some 99, .p (.beq false (.t 96) (.t 98)), (some (95, true))⟩,
    ⟨some 100, .p (.pick (.t 95) (.t 99) (.c (.bool false))), (some (87, false))⟩,
    ⟨some 101, .p (.pick (.t 87) (.c (.bool true)) (.t 100)), (some (84, true))⟩,
    ⟨some 102, .p (.pick (.t 84) (.t 101) (.c (.bool false))), none⟩,
    ⟨some 6, .p (.mov (.t 102)), none⟩])
  .ret))))))))
def rs5 : List AR := [.tmp 6]
theorem ok5 : okF Tryd.prog 5 103 ac5 rs5 = true := by kernel_rfl
/-- simulacrum/simulacrumref27.New -/
def ac10 : AC := (.seq (.reg [⟨some 4, .h (.alloc [.nils, (.int .i64 0), (.int .i64 0), (.int .i64 0)]), none⟩])
  (.seq (.seq (.reg [⟨some 7, .p (.mov (.t 0)), none⟩,
    ⟨some 8, .p (.bin .lss (.t 7) (.c (.int .i64 1))), none⟩,
    ⟨some 9, .p (.mov (.t 8)), none⟩,
    ⟨some 10, .p (.mov (.t 0)), (some (9, false))⟩,
    ⟨some 11, .p (.bin .gtr (.t 10) (.c (.int .i64 64))), (some (9, false))⟩,
    ⟨some 12, .p (.pick (.t 9) (.c (.bool true)) (.t 11)), none⟩,
    ⟨some 13, .p (.mov (.t 12)), none⟩,
    ⟨some 14, .p (.mov (.t 1)), (some (13, false))⟩,
    ⟨some 15, .p (.bin .neq (.t 14) (.c (.int .i64 1))), (some (13, false))⟩,
    ⟨some 16, .p (.mov (.t 15)), (some (13, false))⟩,
    ⟨some 17, .p (.mov (.t 1)), (some (16, true))⟩,
    ⟨some 18, .p (.bin .neq (.t 17) (.c (.int .i64 2))), (some (16, true))⟩,
    ⟨some 19, .p (.pick (.t 16) (.t 18) (.c (.bool false))), (some (13, false))⟩,
    ⟨some 20, .p (.mov (.t 19)), (some (13, false))⟩,
    ⟨some 21, .p (.mov (.t 1)), (some (20, true))⟩,
    ⟨some 22, .p (.bin .neq (.t 21) (.c (.int .i64 4))), (some (20, true))⟩,
    ⟨some 23, .p (.pick (.t 20) (.t 22) (.c (.bool false))), (some (13, false))⟩,
    ⟨some 24, .p (.pick (.t 13) (.c (.bool true)) (.t 23)), none⟩])
  (.cond (.t 24) (.seq (.reg [⟨some 25, .v (.build [.nils, (.int .i64 0), (.int .i64 0), (.int .i64 0)] [(3, 1, (.c (.int .i64 1)))]), none⟩,
    ⟨none, .h (.store 4 (.t 4) (.t 25)), none⟩])
  .ret) .skip))
  (.seq (.reg [⟨some 5, .h (.alloc [.nils]), none⟩])
  (.seq (.seq (.reg [⟨some 6, .p (.mov (.c (.int .i64 0))), none⟩])
  (.block 0 (.loop (.seq (.seq (.reg [⟨some 26, .p (.mov (.t 6)), none⟩,
    ⟨some 27, .p (.mov (.t 0)), none⟩,
    ⟨some 28, .p (.bin .lss (.t 26) (.t 27)), none⟩])
  (.cond (.t 28) .skip (.exit 0)))
  (.seq (.block 1 (.reg [⟨some 31, .p (.fieldA 0 (.t 5)), none⟩,
    ⟨some 32, .h (.load false 1 (.t 31)), none⟩,
    ⟨some 33, .p (.mov (.t 1)), none⟩,
    ⟨some 34, .v (.build [(.int .i64 0), (.int .i64 0)] [(0, 1, (.t 33))]), none⟩,
    ⟨some 35, .d (.bslice 2 1 [(.int .i64 0), (.int .i64 0)] [(0, (.t 34))]), none⟩,
    ⟨some 36, .l (.append 2 16 (.t 32) (.t 35)), none⟩,
    ⟨some 37, .p (.fieldA 0 (.t 5)), none⟩,
    ⟨none, .h (.store 1 (.t 37) (.t 36)), none⟩]))
  (.reg [⟨some 29, .p (.mov (.t 6)), none⟩,
    ⟨some 30, .p (.bin .add (.t 29) (.c (.int .i64 1))), none⟩,
    ⟨some 6, .p (.mov (.t 30)), none⟩]))))))
  (.seq (.reg [⟨some 38, .h (.load true 1 (.t 5)), none⟩,
    ⟨some 39, .v (.build [.nils, (.int .i64 0), (.int .i64 0), (.int .i64 0)] [(0, 1, (.t 38))]), none⟩,
    ⟨none, .h (.store 4 (.t 4) (.t 39)), none⟩])
  .ret)))))
def rs10 : List AR := [.cell 4 true 4]
theorem ok10 : okF Tryd.prog 10 40 ac10 rs10 = true := by kernel_rfl
/-- simulacrum/simulacrumref27.Same -/
def ac11 : AC := (.seq (.reg [⟨some 2, .h (.box (.t 0)), none⟩,
    ⟨some 3, .h (.box (.t 1)), none⟩,
    ⟨some 4, .p (.mov (.c (.bool false))), none⟩])
  (.seq (.seq (.reg [⟨some 6, .p (.fieldA 0 (.t 2)), none⟩,
    ⟨some 7, .h (.load false 1 (.t 6)), none⟩,
    ⟨some 8, .p (.len false (.t 7)), none⟩,
    ⟨some 9, .p (.fieldA 0 (.t 3)), none⟩,
    ⟨some 10, .h (.load false 1 (.t 9)), none⟩,
    ⟨some 11, .p (.len false (.t 10)), none⟩,
    ⟨some 12, .p (.bin .neq (.t 8) (.t 11)), none⟩])
  (.cond (.t 12) (.seq (.reg [⟨some 4, .p (.mov (.c (.bool false))), none⟩])
  .ret) .skip))
  (.seq (.seq (.reg [⟨some 5, .p (.mov (.c (.int .i64 0))), none⟩])
  (.block 0 (.loop (.seq (.seq (.reg [⟨some 13, .p (.mov (.t 5)), none⟩,
    ⟨some 14, .p (.fieldA 0 (.t 2)), none⟩,
    ⟨some 15, .h (.load false 1 (.t 14)), none⟩,
    ⟨some 16, .p (.len false (.t 15)), none⟩,
    ⟨some 17, .p (.bin .lss (.t 13) (.t 16)), none⟩])
  (.cond (.t 17) .skip (.exit 0)))
  (.seq (.block 1 (.seq (.draw 11 [] [⟨some 20, .p (.fieldA 0 (.t 2)), none⟩,
    ⟨some 21, .h (.load false 1 (.t 20)), none⟩,
    ⟨some 22, .p (.mov (.t 5)), none⟩,
    ⟨some 23, .p (.idxA 2 none (.t 21) (.t 22)), none⟩,
    ⟨some 24, .h (.load true 2 (.t 23)), none⟩,
    ⟨some 25, .p (.fieldA 0 (.t 3)), none⟩,
    ⟨some 26, .h (.load false 1 (.t 25)), none⟩,
    ⟨some 27, .p (.mov (.t 5)), none⟩,
    ⟨some 28, .p (.idxA 2 none (.t 26) (.t 27)), none⟩,
    ⟨some 29, .h (.load true 2 (.t 28)), none⟩,
    ⟨some 30, .v (.eqa true [(.i .i64), (.i .i64)] (.t 24) (.t 29)), none⟩])
  (.cond (.t 30) (.seq (.reg [⟨some 4, .p (.mov (.c (.bool false))), none⟩])
  .ret) .skip)))
  (.reg [⟨some 18, .p (.mov (.t 5)), none⟩,
    ⟨some 19, .p (.bin .add (.t 18) (.c (.int .i64 1))), none⟩,
    ⟨some 5, .p (.mov (.t 19)), none⟩]))))))
  (.seq (.reg [⟨some 4, .p (.mov (.c (.bool true))), none⟩])
  .ret))))
def rs11 : List AR := [.tmp 4]
theorem ok11 : okF Tryd.prog 11 31 ac11 rs11 = true := by kernel_rfl
/-- simulacrum/simulacrumref27.Valid -/
def ac13 : AC := (.seq (.reg [⟨some 1, .h (.box (.t 0)), none⟩,
    ⟨some 2, .p (.mov (.c (.bool false))), none⟩])
  (.seq (.seq (.reg [⟨some 5, .p (.fieldA 0 (.t 1)), none⟩,
    ⟨some 6, .h (.load false 1 (.t 5)), none⟩,
    ⟨some 7, .p (.len false (.t 6)), none⟩,
    ⟨some 8, .p (.bin .lss (.t 7) (.c (.int .i64 1))), none⟩,
    ⟨some 9, .p (.mov (.t 8)), none⟩,
    ⟨some 10, .p (.fieldA 0 (.t 1)), (some (9, false))⟩,
    ⟨some 11, .h (.load false 1 (.t 10)), (some (9, false))⟩,
    ⟨some 12, .p (.len false (.t 11)), (some (9, false))⟩,
    ⟨some 13, .p (.bin .gtr (.t 12) (.c (.int .i64 64))), (some (9, false))⟩,
    ⟨some 14, .p (.pick (.t 9) (.c (.bool true)) (.t 13)), none⟩])
  (.cond (.t 14) (.seq (.reg [⟨some 2, .p (.mov (.c (.bool false))), none⟩])
  .ret) .skip))
  (.seq (.seq (.reg [⟨some 3, .p (.mov (.c (.int .i64 0))), none⟩])
  (.block 0 (.loop (.seq (.seq (.reg [⟨some 15, .p (.mov (.t 3)), none⟩,
    ⟨some 16, .p (.fieldA 0 (.t 1)), none⟩,
    ⟨some 17, .h (.load false 1 (.t 16)), none⟩,
    ⟨some 18, .p (.len false (.t 17)), none⟩,
    ⟨some 19, .p (.bin .lss (.t 15) (.t 18)), none⟩])
  (.cond (.t 19) .skip (.exit 0)))
  (.seq (.block 1 (.seq (.reg [⟨some 22, .p (.fieldA 0 (.t 1)), none⟩,
    ⟨some 23, .h (.load false 1 (.t 22)), none⟩,
    ⟨some 24, .p (.mov (.t 3)), none⟩,
    ⟨some 25, .p (.idxA 2 none (.t 23) (.t 24)), none⟩,
    ⟨some 26, .h (.load true 2 (.t 25)), none⟩,
    ⟨some 4, .h (.alloc [(.int .i64 0), (.int .i64 0)]), none⟩,
    ⟨none, .h (.store 2 (.t 4) (.t 26)), none⟩])
  (.seq (.seq (.reg [⟨some 27, .p (.fieldA 0 (.t 4)), none⟩,
    ⟨some 28, .h (.load false 1 (.t 27)), none⟩,
    ⟨some 29, .p (.bin .lss (.t 28) (.c (.int .i64 1))), none⟩,
    ⟨some 30, .p (.mov (.t 29)), none⟩,
    ⟨some 31, .p (.fieldA 0 (.t 4)), (some (30, false))⟩,
    ⟨some 32, .h (.load false 1 (.t 31)), (some (30, false))⟩,
    ⟨some 33, .p (.bin .gtr (.t 32) (.c (.int .i64 4))), (some (30, false))⟩,
    ⟨some 34, .p (.pick (.t 30) (.c (.bool true)) (.t 33)), none⟩,
    ⟨some 35, .p (.mov (.t 34)), none⟩,
    ⟨some 36, .p (.fieldA 1 (.t 4)), (some (35, false))⟩,
    ⟨some 37, .h (.load false 1 (.t 36)), (some (35, false))⟩,
    ⟨some 38, .p (.bin .lss (.t 37) (.c (.int .i64 0))), (some (35, false))⟩,
    ⟨some 39, .p (.pick (.t 35) (.c (.bool true)) (.t 38)), none⟩,
    ⟨some 40, .p (.mov (.t 39)), none⟩,
    ⟨some 41, .p (.fieldA 0 (.t 4)), (some (40, false))⟩,
    ⟨some 42, .h (.load false 1 (.t 41)), (some (40, false))⟩,
    ⟨some 43, .p (.bin .neq (.t 42) (.c (.int .i64 3))), (some (40, false))⟩,
    ⟨some 44, .p (.mov (.t 43)), (some (40, false))⟩,
    ⟨some 45, .p (.fieldA 1 (.t 4)), (some (44, true))⟩,
    ⟨some 46, .h (.load false 1 (.t 45)), (some (44, true))⟩,
    ⟨some 47, .p (.bin .neq (.t 46) (.c (.int .i64 0))), (some (44, true))⟩,
    ⟨some 48, .p (.pick (.t 44) (.t 47) (.c (.bool false))), (some (40, false))⟩,
    ⟨some 49, .p (.pick (.t 40) (.c (.bool true)) (.t 48)), none⟩])
  (.cond (.t 49) (.seq (.reg [⟨some 2, .p (.mov (.c (.bool false))), none⟩])
  .ret) .skip))
  (.seq (.reg [⟨some 50, .p (.fieldA 0 (.t 4)), none⟩,
    ⟨some 51, .h (.load false 1 (.t 50)), none⟩,
    ⟨some 52, .p (.bin .eql (.t 51) (.c (.int .i64 3))), none⟩,
    ⟨some 53, .p (.mov (.t 52)), none⟩,
    ⟨some 54, .h (.load true 1 (.t 1)), (some (53, true))⟩,
    ⟨some 55, .p (.fieldA 1 (.t 4)), (some (53, true))⟩,
    ⟨some 56, .h (.load false 1 (.t 55)), (some (53, true))⟩,
    ⟨some 57, .call 32 [(.t 54), (.t 56)], (some (53, true))⟩,
    ⟨some 58, .p (.mov (.t 3)), (some (53, true))⟩,
    ⟨some 59, .p (.bin .neq (.t 57) (.t 58)), (some (53, true))⟩,
    ⟨some 60, .p (.pick (.t 53) (.t 59) (.c (.bool false))), none⟩])
  (.cond (.t 60) (.seq (.reg [⟨some 2, .p (.mov (.c (.bool false))), none⟩])
  .ret) .skip)))))
  (.reg [⟨some 20, .p (.mov (.t 3)), none⟩,
    ⟨some 21, .p (.bin .add (.t 20) (.c (.int .i64 1))), none⟩,
    ⟨some 3, .p (.mov (.t 21)), none⟩]))))))
  (.seq (.reg [⟨some 2, .p (.mov (.c (.bool true))), none⟩])
  .ret))))
def rs13 : List AR := [.tmp 2]
theorem ok13 : okF Tryd.prog 13 61 ac13 rs13 = true := by kernel_rfl
/-- simulacrum/simulacrumref27.Victim -/
def ac17 : AC := (.seq (.reg [⟨some 3, .h (.box (.t 0)), none⟩,
    ⟨some 6, .h (.alloc [(.int .i64 0), (.bool false)]), none⟩])
  (.seq (.reg [⟨some 12, .p (.fieldA 0 (.t 3)), none⟩,
    ⟨some 13, .h (.load false 1 (.t 12)), none⟩,
    ⟨some 14, .p (.len false (.t 13)), none⟩,
    ⟨some 7, .p (.mov (.t 14)), none⟩])
  (.seq (.reg [⟨some 15, .p (.mov (.t 1)), none⟩,
    ⟨some 16, .p (.mm true (.t 15) (.c (.int .i64 0))), none⟩,
    ⟨some 17, .p (.mov (.t 7)), none⟩,
    ⟨some 18, .p (.bin .rem (.t 16) (.t 17)), none⟩,
    ⟨some 8, .p (.mov (.t 18)), none⟩])
  (.seq (.seq (.reg [⟨some 9, .p (.mov (.c (.int .i64 0))), none⟩])
  (.block 0 (.loop (.seq (.seq (.reg [⟨some 19, .p (.mov (.t 9)), none⟩,
    ⟨some 20, .p (.bin .lss (.t 19) (.c (.int .i64 2))), none⟩])
  (.cond (.t 20) .skip (.exit 0)))
  (.seq (.block 1 (.seq (.reg [⟨some 10, .p (.mov (.c (.int .i64 0))), none⟩])
  (.block 2 (.loop (.seq (.seq (.reg [⟨some 23, .p (.mov (.t 10)), none⟩,
    ⟨some 24, .p (.mov (.t 7)), none⟩,
    ⟨some 25, .p (.bin .lss (.t 23) (.t 24)), none⟩])
  (.cond (.t 25) .skip (.exit 2)))
  (.seq (.block 3 (.seq (.reg [⟨some 28, .p (.mov (.t 8)), none⟩,
    ⟨some 29, .p (.mov (.t 10)), none⟩,
    ⟨some 30, .p (.bin .add (.t 28) (.t 29)), none⟩,
    ⟨some 31, .p (.mov (.t 7)), none⟩,
    ⟨some 32, .p (.bin .rem (.t 30) (.t 31)), none⟩,
    ⟨some 11, .p (.mov (.t 32)), none⟩])
  (.seq (.reg [⟨some 33, .p (.fieldA 0 (.t 3)), none⟩,
    ⟨some 34, .h (.load false 1 (.t 33)), none⟩,
    ⟨some 35, .p (.mov (.t 11)), none⟩,
    ⟨some 36, .p (.idxA 2 none (.t 34) (.t 35)), none⟩,
    ⟨some 37, .p (.fieldA 0 (.t 36)), none⟩,
    ⟨some 38, .h (.load false 1 (.t 37)), none⟩,
    ⟨some 39, .p (.bin .eql (.t 38) (.c (.int .i64 1))), none⟩,
    ⟨some 40, .p (.mov (.t 39)), none⟩,
    ⟨some 41, .p (.mov (.t 9)), (some (40, true))⟩,
    ⟨some 42, .p (.bin .eql (.t 41) (.c (.int .i64 1))), (some (40, true))⟩,
    ⟨some 43, .p (.mov (.t 42)), (some (40, true))⟩,
    ⟨some 44, .p (.mov (.t 11)), (some (43, false))⟩,
    ⟨some 45, .p (.mov (.t 2)), (some (43, false))⟩,
    ⟨some 46, .p (.len false (.t 45)), (some (43, false))⟩,
    ⟨some 47, .p (.bin .geq (.t 44) (.t 46)), (some (43, false))⟩,
    ⟨some 48, .p (.pick (.t 43) (.c (.bool true)) (.t 47)), (some (40, true))⟩,
    ⟨some 49, .p (.mov (.t 48)), (some (40, true))⟩,
    ⟨some 50, .p (.mov (.t 2)), (some (49, false))⟩,
    ⟨some 51, .p (.mov (.t 11)), (some (49, false))⟩,
    ⟨some 52, .p (.idxA 1 none (.t 50) (.t 51)), (some (49, false))⟩,
    ⟨some 53, .h (.load false 1 (.t 52)), (some (49, false))⟩,
    ⟨some 54, .p (.un .not (.t 53)), (some (49, false))⟩,
    ⟨some 55, .p (.pick (.t 49) (.c (.bool true)) (.t 54)), (some (40, true))⟩,
    ⟨some 56, .p (.pick (.t 40) (.t 55) (.c (.bool false))), none⟩])
  (.cond (.t 56) (.seq (.reg [⟨some 57, .p (.mov (.t 11)), none⟩,
    ⟨some 58, .v (.build [(.int .i64 0), (.bool false)] [(0, 1, (.t 57)), (1, 1, (.c (.bool true)))]), none⟩,
    ⟨none, .h (.store 2 (.t 6) (.t 58)), none⟩])
  .ret) .skip))))
  (.reg [⟨some 26, .p (.mov (.t 10)), none⟩,
    ⟨some 27, .p (.bin .add (.t 26) (.c (.int .i64 1))), none⟩,
    ⟨some 10, .p (.mov (.t 27)), none⟩])))))))
  (.reg [⟨some 21, .p (.mov (.t 9)), none⟩,
    ⟨some 22, .p (.bin .add (.t 21) (.c (.int .i64 1))), none⟩,
    ⟨some 9, .p (.mov (.t 22)), none⟩]))))))
  (.seq (.reg [⟨some 59, .v (.build [(.int .i64 0), (.bool false)] []), none⟩,
    ⟨none, .h (.store 2 (.t 6) (.t 59)), none⟩])
  .ret)))))
def rs17 : List AR := [.cell 6 true 2]
theorem ok17 : okF Tryd.prog 17 60 ac17 rs17 = true := by kernel_rfl
/-- simulacrum/simulacrumref27.Give -/
def ac18 : AC := (.seq (.reg [⟨some 3, .h (.box (.t 0)), none⟩,
    ⟨some 6, .h (.alloc [.nils, (.int .i64 0), (.int .i64 0), (.int .i64 0)]), none⟩])
  (.seq (.seq (.reg [⟨some 7, .p (.mov (.t 1)), none⟩,
    ⟨some 8, .p (.bin .lss (.t 7) (.c (.int .i64 0))), none⟩,
    ⟨some 9, .p (.mov (.t 8)), none⟩,
    ⟨some 10, .p (.mov (.t 1)), (some (9, false))⟩,
    ⟨some 11, .p (.fieldA 0 (.t 3)), (some (9, false))⟩,
    ⟨some 12, .h (.load false 1 (.t 11)), (some (9, false))⟩,
    ⟨some 13, .p (.len false (.t 12)), (some (9, false))⟩,
    ⟨some 14, .p (.bin .geq (.t 10) (.t 13)), (some (9, false))⟩,
    ⟨some 15, .p (.pick (.t 9) (.c (.bool true)) (.t 14)), none⟩])
  (.cond (.t 15) (.seq (.reg [⟨some 16, .h (.load true 1 (.t 3)), none⟩,
    ⟨some 17, .v (.build [.nils, (.int .i64 0), (.int .i64 0), (.int .i64 0)] [(0, 1, (.t 16)), (3, 1, (.c (.int .i64 5)))]), none⟩,
    ⟨none, .h (.store 4 (.t 6) (.t 17)), none⟩])
  .ret) .skip))
  (.seq (.seq (.reg [⟨some 18, .p (.mov (.t 2)), none⟩,
    ⟨some 19, .p (.bin .lss (.t 18) (.c (.int .i64 (-1)))), none⟩,
    ⟨some 20, .p (.mov (.t 19)), none⟩,
    ⟨some 21, .p (.mov (.t 2)), (some (20, false))⟩,
    ⟨some 22, .p (.bin .geq (.t 21) (.c (.int .i64 0))), (some (20, false))⟩,
    ⟨some 23, .p (.mov (.t 22)), (some (20, false))⟩,
    ⟨some 24, .h (.load true 1 (.t 3)), (some (23, true))⟩,
    ⟨some 25, .p (.mov (.t 2)), (some (23, true))⟩,
    ⟨some 26, .call 32 [(.t 24), (.t 25)], (some (23, true))⟩,
    ⟨some 27, .p (.bin .geq (.t 26) (.c (.int .i64 0))), (some (23, true))⟩,
    ⟨some 28, .p (.pick (.t 23) (.t 27) (.c (.bool false))), (some (20, false))⟩,
    ⟨some 29, .p (.pick (.t 20) (.c (.bool true)) (.t 28)), none⟩])
  (.cond (.t 29) (.seq (.reg [⟨some 30, .h (.load true 1 (.t 3)), none⟩,
    ⟨some 31, .v (.build [.nils, (.int .i64 0), (.int .i64 0), (.int .i64 0)] [(0, 1, (.t 30)), (3, 1, (.c (.int .i64 1)))]), none⟩,
    ⟨none, .h (.store 4 (.t 6) (.t 31)), none⟩])
  .ret) .skip))
  (.seq (.seq (.reg [⟨some 32, .p (.fieldA 0 (.t 3)), none⟩,
    ⟨some 33, .h (.load false 1 (.t 32)), none⟩,
    ⟨some 34, .p (.mov (.t 1)), none⟩,
    ⟨some 35, .p (.idxA 2 none (.t 33) (.t 34)), none⟩,
    ⟨some 36, .p (.fieldA 0 (.t 35)), none⟩,
    ⟨some 37, .h (.load false 1 (.t 36)), none⟩,
    ⟨some 38, .p (.bin .neq (.t 37) (.c (.int .i64 1))), none⟩])
  (.cond (.t 38) (.seq (.reg [⟨some 39, .h (.load true 1 (.t 3)), none⟩,
    ⟨some 40, .v (.build [.nils, (.int .i64 0), (.int .i64 0), (.int .i64 0)] [(0, 1, (.t 39)), (3, 1, (.c (.int .i64 4)))]), none⟩,
    ⟨none, .h (.store 4 (.t 6) (.t 40)), none⟩])
  .ret) .skip))
  (.seq (.seq (.reg [⟨some 41, .p (.mov (.t 2)), none⟩,
    ⟨some 42, .p (.bin .lss (.t 41) (.c (.int .i64 0))), none⟩])
  (.cond (.t 42) (.seq (.reg [⟨some 43, .h (.load true 1 (.t 3)), none⟩,
    ⟨some 44, .p (.mov (.t 1)), none⟩,
    ⟨some 45, .v (.build [(.int .i64 0), (.int .i64 0)] [(0, 1, (.c (.int .i64 2)))]), none⟩,
    ⟨some 46, .call 35 [(.t 43), (.t 44), (.t 45)], none⟩,
    ⟨some 47, .v (.build [.nils, (.int .i64 0), (.int .i64 0), (.int .i64 0)] [(0, 1, (.t 46))]), none⟩,
    ⟨none, .h (.store 4 (.t 6) (.t 47)), none⟩])
  .ret) .skip))
  (.seq (.reg [⟨some 48, .h (.load true 1 (.t 3)), none⟩,
    ⟨some 49, .p (.mov (.t 1)), none⟩,
    ⟨some 50, .p (.mov (.t 2)), none⟩,
    ⟨some 51, .v (.build [(.int .i64 0), (.int .i64 0)] [(0, 1, (.c (.int .i64 3))), (1, 1, (.t 50))]), none⟩,
    ⟨some 52, .call 35 [(.t 48), (.t 49), (.t 51)], none⟩,
    ⟨some 53, .v (.build [.nils, (.int .i64 0), (.int .i64 0), (.int .i64 0)] [(0, 1, (.t 52))]), none⟩,
    ⟨none, .h (.store 4 (.t 6) (.t 53)), none⟩])
  .ret))))))
def rs18 : List AR := [.cell 6 true 4]
theorem ok18 : okF Tryd.prog 18 54 ac18 rs18 = true := by kernel_rfl
/-- simulacrum/simulacrumref27.Take -/
def ac19 : AC := (.seq (.reg [⟨some 2, .h (.box (.t 0)), none⟩,
    ⟨some 4, .h (.alloc [.nils, (.int .i64 0), (.int .i64 0), (.int .i64 0)]), none⟩])
  (.seq (.seq (.reg [⟨some 5, .p (.mov (.t 1)), none⟩,
    ⟨some 6, .p (.bin .lss (.t 5) (.c (.int .i64 0))), none⟩,
    ⟨some 7, .p (.mov (.t 6)), none⟩,
    ⟨some 8, .p (.mov (.t 1)), (some (7, false))⟩,
    ⟨some 9, .p (.fieldA 0 (.t 2)), (some (7, false))⟩,
    ⟨some 10, .h (.load false 1 (.t 9)), (some (7, false))⟩,
    ⟨some 11, .p (.len false (.t 10)), (some (7, false))⟩,
    ⟨some 12, .p (.bin .geq (.t 8) (.t 11)), (some (7, false))⟩,
    ⟨some 13, .p (.pick (.t 7) (.c (.bool true)) (.t 12)), none⟩])
  (.cond (.t 13) (.seq (.reg [⟨some 14, .h (.load true 1 (.t 2)), none⟩,
    ⟨some 15, .v (.build [.nils, (.int .i64 0), (.int .i64 0), (.int .i64 0)] [(0, 1, (.t 14)), (3, 1, (.c (.int .i64 5)))]), none⟩,
    ⟨none, .h (.store 4 (.t 4) (.t 15)), none⟩])
  .ret) .skip))
  (.seq (.seq (.reg [⟨some 16, .p (.fieldA 0 (.t 2)), none⟩,
    ⟨some 17, .h (.load false 1 (.t 16)), none⟩,
    ⟨some 18, .p (.mov (.t 1)), none⟩,
    ⟨some 19, .p (.idxA 2 none (.t 17) (.t 18)), none⟩,
    ⟨some 20, .p (.fieldA 0 (.t 19)), none⟩,
    ⟨some 21, .h (.load false 1 (.t 20)), none⟩,
    ⟨some 22, .p (.bin .eql (.t 21) (.c (.int .i64 1))), none⟩])
  (.cond (.t 22) (.seq (.reg [⟨some 23, .h (.load true 1 (.t 2)), none⟩,
    ⟨some 24, .v (.build [.nils, (.int .i64 0), (.int .i64 0), (.int .i64 0)] [(0, 1, (.t 23)), (3, 1, (.c (.int .i64 4)))]), none⟩,
    ⟨none, .h (.store 4 (.t 4) (.t 24)), none⟩])
  .ret) .skip))
  (.seq (.draw 11 [(3, 10), (0, 10), (5, 10), (8, 10)] [⟨some 25, .h (.load true 1 (.t 2)), none⟩,
    ⟨some 26, .p (.mov (.t 1)), none⟩,
    ⟨some 27, .v (.build [(.int .i64 0), (.int .i64 0)] [(0, 1, (.c (.int .i64 1)))]), none⟩,
    ⟨some 28, .call 35 [(.t 25), (.t 26), (.t 27)], none⟩,
    ⟨some 29, .p (.fieldA 0 (.t 2)), none⟩,
    ⟨some 30, .h (.load false 1 (.t 29)), none⟩,
    ⟨some 31, .p (.mov (.t 1)), none⟩,
    ⟨some 32, .p (.idxA 2 none (.t 30) (.t 31)), none⟩,
    ⟨some 33, .h (.load true 2 (.t 32)), none⟩,
    ⟨some 34, .v (.build [.nils, (.int .i64 0), (.int .i64 0), (.int .i64 0)] [(0, 1, (.t 28)), (1, 2, (.t 33))]), none⟩,
    ⟨none, .h (.store 4 (.t 4) (.t 34)), none⟩])
  .ret))))
def rs19 : List AR := [.cell 4 true 4]
theorem ok19 : okF Tryd.prog 19 35 ac19 rs19 = true := by kernel_rfl
/-- simulacrum/simulacrumref27.Count -/
def ac21 : AC := (.seq (.reg [⟨some 2, .h (.box (.t 0)), none⟩,
    ⟨some 4, .p (.mov (.c (.int .i64 0))), none⟩])
  (.seq (.reg [⟨some 5, .p (.mov (.c (.int .i64 0))), none⟩])
  (.seq (.seq (.reg [⟨some 6, .p (.mov (.c (.int .i64 0))), none⟩])
  (.block 0 (.loop (.seq (.seq (.reg [⟨some 7, .p (.mov (.t 6)), none⟩,
    ⟨some 8, .p (.fieldA 0 (.t 2)), none⟩,
    ⟨some 9, .h (.load false 1 (.t 8)), none⟩,
    ⟨some 10, .p (.len false (.t 9)), none⟩,
    ⟨some 11, .p (.bin .lss (.t 7) (.t 10)), none⟩])
  (.cond (.t 11) .skip (.exit 0)))
  (.seq (.block 1 (.seq (.reg [⟨some 14, .p (.fieldA 0 (.t 2)), none⟩,
    ⟨some 15, .h (.load false 1 (.t 14)), none⟩,
    ⟨some 16, .p (.mov (.t 6)), none⟩,
    ⟨some 17, .p (.idxA 2 none (.t 15) (.t 16)), none⟩,
    ⟨some 18, .p (.fieldA 0 (.t 17)), none⟩,
    ⟨some 19, .h (.load false 1 (.t 18)), none⟩,
    ⟨some 20, .p (.mov (.t 1)), none⟩,
    ⟨some 21, .p (.bin .eql (.t 19) (.t 20)), none⟩])
  (.cond (.t 21) (.reg [⟨some 22, .p (.mov (.t 5)), none⟩,
    ⟨some 23, .p (.bin .add (.t 22) (.c (.int .i64 1))), none⟩,
    ⟨some 5, .p (.mov (.t 23)), none⟩]) .skip)))
  (.reg [⟨some 12, .p (.mov (.t 6)), none⟩,
    ⟨some 13, .p (.bin .add (.t 12) (.c (.int .i64 1))), none⟩,
    ⟨some 6, .p (.mov (.t 13)), none⟩]))))))
  (.seq (.reg [⟨some 24, .p (.mov (.t 5)), none⟩,
    ⟨some 4, .p (.mov (.t 24)), none⟩])
  .ret))))
def rs21 : List AR := [.tmp 4]
theorem ok21 : okF Tryd.prog 21 25 ac21 rs21 = true := by kernel_rfl
/-- simulacrum/simulacrumref27.holder -/
def ac32 : AC := (.seq (.reg [⟨some 2, .h (.box (.t 0)), none⟩,
    ⟨some 4, .p (.mov (.c (.int .i64 0))), none⟩])
  (.seq (.seq (.reg [⟨some 5, .p (.mov (.c (.int .i64 0))), none⟩])
  (.block 0 (.loop (.seq (.seq (.reg [⟨some 6, .p (.mov (.t 5)), none⟩,
    ⟨some 7, .p (.fieldA 0 (.t 2)), none⟩,
    ⟨some 8, .h (.load false 1 (.t 7)), none⟩,
    ⟨some 9, .p (.len false (.t 8)), none⟩,
    ⟨some 10, .p (.bin .lss (.t 6) (.t 9)), none⟩])
  (.cond (.t 10) .skip (.exit 0)))
  (.seq (.block 1 (.seq (.reg [⟨some 13, .p (.fieldA 0 (.t 2)), none⟩,
    ⟨some 14, .h (.load false 1 (.t 13)), none⟩,
    ⟨some 15, .p (.mov (.t 5)), none⟩,
    ⟨some 16, .p (.idxA 2 none (.t 14) (.t 15)), none⟩,
    ⟨some 17, .p (.fieldA 0 (.t 16)), none⟩,
    ⟨some 18, .h (.load false 1 (.t 17)), none⟩,
    ⟨some 19, .p (.bin .eql (.t 18) (.c (.int .i64 3))), none⟩,
    ⟨some 20, .p (.mov (.t 19)), none⟩,
    ⟨some 21, .p (.fieldA 0 (.t 2)), (some (20, true))⟩,
    ⟨some 22, .h (.load false 1 (.t 21)), (some (20, true))⟩,
    ⟨some 23, .p (.mov (.t 5)), (some (20, true))⟩,
    ⟨some 24, .p (.idxA 2 none (.t 22) (.t 23)), (some (20, true))⟩,
    ⟨some 25, .p (.fieldA 1 (.t 24)), (some (20, true))⟩,
    ⟨some 26, .h (.load false 1 (.t 25)), (some (20, true))⟩,
    ⟨some 27, .p (.mov (.t 1)), (some (20, true))⟩,
    ⟨some 28, .p (.bin .eql (.t 26) (.t 27)), (some (20, true))⟩,
    ⟨some 29, .p (.pick (.t 20) (.t 28) (.c (.bool false))), none⟩])
  (.cond (.t 29) (.seq (.reg [⟨some 30, .p (.mov (.t 5)), none⟩,
    ⟨some 4, .p (.mov (.t 30)), none⟩])
  .ret) .skip)))
  (.reg [⟨some 11, .p (.mov (.t 5)), none⟩,
    ⟨some 12, .p (.bin .add (.t 11) (.c (.int .i64 1))), none⟩,
    ⟨some 5, .p (.mov (.t 12)), none⟩]))))))
  (.seq (.reg [⟨some 4, .p (.mov (.c (.int .i64 (-1)))), none⟩])
  .ret)))
def rs32 : List AR := [.tmp 4]
theorem ok32 : okF Tryd.prog 32 31 ac32 rs32 = true := by kernel_rfl
/-- simulacrum/simulacrumref27.with -/
def ac35 : AC := (.seq (.reg [⟨some 3, .h (.box (.t 0)), none⟩,
    ⟨some 5, .h (.box (.t 2)), none⟩,
    ⟨some 6, .h (.alloc [.nils]), none⟩])
  (.seq (.reg [⟨some 8, .l (.bslice 2 0 [(.int .i64 0), (.int .i64 0)] []), none⟩,
    ⟨some 9, .p (.fieldA 0 (.t 3)), none⟩,
    ⟨some 10, .h (.load false 1 (.t 9)), none⟩,
    ⟨some 11, .l (.append 2 16 (.t 8) (.t 10)), none⟩,
    ⟨some 12, .v (.build [.nils] [(0, 1, (.t 11))]), none⟩,
    ⟨some 7, .h (.alloc [.nils]), none⟩,
    ⟨none, .h (.store 1 (.t 7) (.t 12)), none⟩])
  (.seq (.reg [⟨some 13, .p (.fieldA 0 (.t 7)), none⟩,
    ⟨some 14, .h (.load false 1 (.t 13)), none⟩,
    ⟨some 15, .p (.mov (.t 1)), none⟩,
    ⟨some 16, .h (.load true 2 (.t 5)), none⟩,
    ⟨some 17, .p (.idxA 2 none (.t 14) (.t 15)), none⟩,
    ⟨none, .h (.store 2 (.t 17) (.t 16)), none⟩])
  (.seq (.reg [⟨some 18, .h (.load true 1 (.t 7)), none⟩,
    ⟨none, .h (.store 1 (.t 6) (.t 18)), none⟩])
  .ret))))
def rs35 : List AR := [.cell 6 true 1]
theorem ok35 : okF Tryd.prog 35 19 ac35 rs35 = true := by kernel_rfl
end Go.Proofs

namespace Go.Proofs
open Go Go.Eng
set_option maxRecDepth 100000
/-! ### Words -/
abbrev W (n : Nat) : AV := .int .u32 (n : Int)
abbrev I (n : Int) : AV := .int .i64 n
theorem w32 (n : Int) : IntKind.u32.wrap n = n % 4294967296 := by
  have : IntKind.u32.wrap n = if IntKind.u32.signed then (let r := n % 2 ^ IntKind.u32.bits; if r < 2 ^ (IntKind.u32.bits - 1) then r else r - 2 ^ IntKind.u32.bits) else n % 2 ^ IntKind.u32.bits := by
    first | rfl | (simp [IntKind.wrap])
  rw [this]; rfl
theorem b32 (n : Nat) (h : n < 4294967296) : (BitVec.ofInt 32 (n : Int)).toNat = n := by
  rw [BitVec.toNat_ofInt]
  omega
theorem wand {a b : Nat} (ha : a < 4294967296) (hb : b < 4294967296) : IntKind.u32.wrap (BitVec.ofInt IntKind.u32.bits (a : Int) &&& BitVec.ofInt IntKind.u32.bits (b : Int)).toNat = ((a &&& b : Nat) : Int) := by
  show IntKind.u32.wrap (BitVec.ofInt 32 (a : Int) &&& BitVec.ofInt 32 (b : Int)).toNat = _
  rw [w32, BitVec.toNat_and, b32 a ha, b32 b hb]
  have := Nat.and_lt_two_pow a (n := 32) hb
  omega
theorem wor {a b : Nat} (ha : a < 4294967296) (hb : b < 4294967296) : IntKind.u32.wrap (BitVec.ofInt IntKind.u32.bits (a : Int) ||| BitVec.ofInt IntKind.u32.bits (b : Int)).toNat = ((a ||| b : Nat) : Int) := by
  show IntKind.u32.wrap (BitVec.ofInt 32 (a : Int) ||| BitVec.ofInt 32 (b : Int)).toNat = _
  rw [w32, BitVec.toNat_or, b32 a ha, b32 b hb]
  have := Nat.or_lt_two_pow (n := 32) ha hb
  omega
theorem wxor {a b : Nat} (ha : a < 4294967296) (hb : b < 4294967296) : IntKind.u32.wrap (BitVec.ofInt IntKind.u32.bits (a : Int) ^^^ BitVec.ofInt IntKind.u32.bits (b : Int)).toNat = ((a ^^^ b : Nat) : Int) := by
  show IntKind.u32.wrap (BitVec.ofInt 32 (a : Int) ^^^ BitVec.ofInt 32 (b : Int)).toNat = _
  rw [w32, BitVec.toNat_xor, b32 a ha, b32 b hb]
  have := Nat.xor_lt_two_pow (n := 32) ha hb
  omega
theorem wadd (a b : Nat) : IntKind.u32.wrap ((a : Int) + (b : Int)) = (((a + b) % 4294967296 : Nat) : Int) := by
  rw [w32]; omega
theorem wshl (a k : Nat) : IntKind.u32.wrap ((a : Int) * 2 ^ k) = ((a * 2 ^ k % 4294967296 : Nat) : Int) := by
  rw [w32]; simp
theorem wshr (a k : Nat) : (a : Int).fdiv (2 ^ k) = ((a / 2 ^ k : Nat) : Int) := by
  have : (2 : Int) ^ k = ((2 ^ k : Nat) : Int) := by simp
  rw [this, Int.fdiv_eq_ediv_of_nonneg _ (Int.natCast_nonneg _)]
  simp
theorem shr_lt {a : Nat} (h : a < 4294967296) (k : Nat) : a / 2 ^ k < 4294967296 := Nat.lt_of_le_of_lt (Nat.div_le_self _ _) h
/-- A right rotation. -/
def rotr (x n : Nat) : Nat := (x * 2 ^ (32 - n) % 4294967296) ||| (x / 2 ^ n)
theorem rotr_lt {x : Nat} (h : x < 4294967296) (n : Nat) : rotr x n < 4294967296 := Nat.or_lt_two_pow (n := 32) (Nat.mod_lt _ (by omega)) (shr_lt h n)
def rots : List Nat := [2, 6, 7, 11, 13, 17, 18, 19, 22, 25]
theorem c65 (x n : Nat) (hx : x < 4294967296) (hn : n ∈ rots) : CallA Tryd.prog 65 [W x, .int .i64 (-(n : Int))] Heap.nil fun v H' => v = W (rotr x n) ∧ H' = Heap.nil := by
  refine callA_of ok65 (Nat.le_of_ble_eq_true rfl) ?_
  have fin : ∀ k m : Nat, k + m = 32 → AV.int .u32 (IntKind.u32.wrap (BitVec.ofInt IntKind.u32.bits (IntKind.u32.wrap ((x : Int) * 2 ^ k)) ||| BitVec.ofInt IntKind.u32.bits ((x : Int).fdiv (2 ^ m))).toNat) = W (rotr x m) := by
    intro k m hkm
    rw [wshl, wshr, wor (Nat.mod_lt _ (by omega)) (shr_lt hx m)]
    have : k = 32 - m := by omega
    subst this; rfl
  simp only [rots, List.mem_cons, List.not_mem_nil, or_false] at hn
  rcases hn with rfl | rfl | rfl | rfl | rfl | rfl | rfl | rfl | rfl | rfl
  repeat' ((conv => whnf); first
      | refine Branch.ofT rfl ?_
      | refine Branch.ofF rfl ?_
      | refine Branch.dec (fun h => ?_) (fun h => ?_)
      | refine Branch.negdec (fun h => ?_) (fun h => ?_)
      | refine Branch.neg (fun h => ?_) (fun h => ?_)
      | refine Branch.mk (fun h => ?_) (fun h => ?_)
      | (refine Side.mk ?_ ?_; · first | omega | decide)
      | (refine SideD.mk ?_ ?_; · first | omega | decide)
      | refine ⟨_, Nat.lt_succ_self _, To.refl (.inl ⟨rfl, ?_⟩)⟩
      | (refine Side.mk ?_ ?_; · (simp; done))
      | fail
      )
  all_goals (conv => whnf)
  all_goals (refine RetA.data rfl ⟨?_, rfl⟩; (try simp only [one]))
  · exact fin 30 2 rfl
  · exact fin 26 6 rfl
  · exact fin 25 7 rfl
  · exact fin 21 11 rfl
  · exact fin 19 13 rfl
  · exact fin 15 17 rfl
  · exact fin 14 18 rfl
  · exact fin 13 19 rfl
  · exact fin 10 22 rfl
  · exact fin 7 25 rfl
end Go.Proofs

namespace Go.Proofs
open Go Go.Eng
set_option maxRecDepth 100000
set_option maxHeartbeats 1000000
def mixN (x i j k : Nat) : Nat := rotr x i ^^^ rotr x j ^^^ rotr x k
theorem xor_lt {a b : Nat} (ha : a < 4294967296) (hb : b < 4294967296) : a ^^^ b < 4294967296 := Nat.xor_lt_two_pow (n := 32) ha hb
theorem or_lt {a b : Nat} (ha : a < 4294967296) (hb : b < 4294967296) : a ||| b < 4294967296 := Nat.or_lt_two_pow (n := 32) ha hb
theorem and_lt {a b : Nat} (hb : b < 4294967296) : a &&& b < 4294967296 := Nat.and_lt_two_pow (n := 32) a hb
theorem mixN_lt {x : Nat} (hx : x < 4294967296) (i j k : Nat) : mixN x i j k < 4294967296 := xor_lt (xor_lt (rotr_lt hx i) (rotr_lt hx j)) (rotr_lt hx k)
theorem rots_le {n : Nat} (h : n ∈ rots) : n ≤ 25 := by
  simp only [rots, List.mem_cons, List.not_mem_nil, or_false] at h; omega
theorem c64 (x i j k : Nat) (hx : x < 4294967296) (hi : i ∈ rots) (hj : j ∈ rots) (hk : k ∈ rots) : CallA Tryd.prog 64 [W x, I i, I j, I k] Heap.nil fun v H' => v = W (mixN x i j k) ∧ H' = Heap.nil := by
  refine callA_of ok64 (Nat.le_of_ble_eq_true rfl) ?_
  have h1 := rots_le hi
  have h2 := rots_le hj
  have h3 := rots_le hk
  repeat' ((conv => whnf); first
      | refine Branch.ofT rfl ?_
      | refine Branch.ofF rfl ?_
      | refine Branch.dec (fun h => ?_) (fun h => ?_)
      | refine Branch.negdec (fun h => ?_) (fun h => ?_)
      | refine Branch.neg (fun h => ?_) (fun h => ?_)
      | refine Branch.mk (fun h => ?_) (fun h => ?_)
      | (refine Side.mk ?_ ?_; · first | omega | decide)
      | (refine SideD.mk ?_ ?_; · first | omega | decide)
      | refine ⟨_, Nat.lt_succ_self _, To.refl (.inl ⟨rfl, ?_⟩)⟩
      | refine CallA.pure (c65 x _ hx hi) rfl rfl ?_
      | refine CallA.pure (c65 x _ hx hj) rfl rfl ?_
      | refine CallA.pure (c65 x _ hx hk) rfl rfl ?_
      | (refine Side.mk ?_ ?_; · (simp; done))
      | fail
      )
  all_goals (conv => whnf)
  refine RetA.data rfl ⟨?_, rfl⟩
  simp only [one]
  rw [wxor (rotr_lt hx i) (rotr_lt hx j), wxor (xor_lt (rotr_lt hx i) (rotr_lt hx j)) (rotr_lt hx k)]; rfl
/-! ### The schedule -/
abbrev B (n : Nat) : AV := .int .u8 (n : Int)
def wstep (y b : Nat) : Nat := y * 2 ^ 8 % 4294967296 ||| b
def word (b0 b1 b2 b3 : Nat) : Nat := wstep (wstep (wstep (wstep 0 b0) b1) b2) b3
theorem wstep_lt (y : Nat) {b : Nat} (h : b < 4294967296) : wstep y b < 4294967296 := or_lt (Nat.mod_lt _ (by omega)) h
def sg0 (p : Nat) : Nat := rotr p 7 ^^^ rotr p 18 ^^^ (p / 2 ^ 3)
def sg1 (p : Nat) : Nat := rotr p 17 ^^^ rotr p 19 ^^^ (p / 2 ^ 10)
def nxt (bs ws : List Nat) (t : Nat) : Nat := if t < 16 then word (bs.getD (4 * t) 0) (bs.getD (4 * t + 1) 0) (bs.getD (4 * t + 2) 0) (bs.getD (4 * t + 3) 0)
  else (((ws.getD (t - 16) 0 + sg0 (ws.getD (t - 15) 0)) % 4294967296 + ws.getD (t - 7) 0) % 4294967296 + sg1 (ws.getD (t - 2) 0)) % 4294967296
def sched (bs : List Nat) : Nat → List Nat
  | 0 => []
  | t + 1 => sched bs t ++ [nxt bs (sched bs t) t]
theorem sched_len (bs : List Nat) : ∀ t, (sched bs t).length = t
  | 0 => rfl
  | t + 1 => by simp [sched, sched_len bs t]
theorem ldI {z : List AV} {ws : List Nat} {i off : Nat} {K : AV → Prop} (e : off = i) (h : i < ws.length) (hk : K (W (ws.getD i 0))) : nthK 0 ((ws.map W ++ z).drop off) K := by
  subst e
  rw [List.drop_append_of_le_length (by simp; omega), List.drop_eq_getElem_cons (by simpa using h)]
  simp only [List.cons_append, nthK, fv_eq, List.getElem_map]
  simpa [List.getD_eq_getElem?_getD, List.getElem?_eq_getElem h] using hk
theorem sched_lt {bs : List Nat} (hb : ∀ x ∈ bs, x < 256) : ∀ (t : Nat), ∀ x ∈ sched bs t, x < 4294967296
  | 0, x, h => by cases h
  | t + 1, x, h => by
    rcases List.mem_append.1 h with h | h
    · exact sched_lt hb t x h
    · simp only [List.mem_singleton] at h
      subst h
      unfold nxt
      split
      · refine wstep_lt _ ?_
        rw [List.getD_eq_getElem?_getD]
        cases hx : bs[4 * t + 3]? with
        | none => simp
        | some y => simp only [Option.getD_some]; exact Nat.lt_trans (hb y (List.mem_of_getElem? hx)) (by omega)
      · exact Nat.mod_lt _ (by omega)
theorem getD_lt {ws : List Nat} {m : Nat} (h : ∀ x ∈ ws, x < m) (hm : 0 < m) (i : Nat) : ws.getD i 0 < m := by
  rw [List.getD_eq_getElem?_getD]
  cases hx : ws[i]? with
  | none => simpa using hm
  | some y => exact h y (List.mem_of_getElem? hx)
theorem ld0 {ws : List Nat} {off n : Nat} {K : AV → Prop} (e : off = ws.length) (h : 0 < n) (hk : K (W 0)) : nthK 0 ((ws.map W ++ List.replicate n (W 0)).drop off) K := by
  subst e
  obtain ⟨m, rfl⟩ : ∃ m, n = m + 1 := ⟨n - 1, by omega⟩
  rw [List.drop_append, List.drop_eq_nil_of_le (by simp)]
  simpa [List.replicate_succ, nthK, fv_eq] using hk
theorem ldL {ws : List Nat} {z : List AV} {y off : Nat} {K : AV → Prop} (e : off = ws.length) (hk : K (W y)) : nthK 0 (((ws ++ [y]).map W ++ z).drop off) K := by
  refine ldI (i := ws.length) e (by simp) ?_
  simpa using hk
theorem ldB {bs : List Nat} {off off' j j' n : Nat} {K : AV → Prop} (e : off' = off) (e2 : j' = j) (e3 : n = 4) (hj : j < 4) (h : off + j < bs.length) (hk : K (B (bs.getD (off + j) 0))) : nthK 0 (((bs.map B).drop off' |>.take n).drop j') K := by
  subst e e2 e3
  have : ((bs.map B).drop off' |>.take 4).drop j' = B (bs.getD (off' + j') 0) :: (((bs.map B).drop off' |>.take 4).drop (j' + 1)) := by
    rw [List.drop_eq_getElem_cons (by simp; omega)]
    congr 1
    simp [List.getD_eq_getElem?_getD, List.getElem?_eq_getElem h]
  rw [this]
  simpa [nthK, fv_eq] using hk
theorem u32ok {x : Nat} (h : x < 4294967296) : IntKind.u32.min ≤ (x : Int) ∧ (x : Int) ≤ IntKind.u32.max := by
  have h1 : IntKind.u32.min = 0 := rfl
  have h2 : IntKind.u32.max = 4294967295 := rfl
  omega
theorem lput1 {a z : List AV} {c v : AV} {off : Nat} {K : List AV → Prop} (e : off = a.length) (hs : scal v = true) (hk : K (a ++ v :: z)) : lputK (a ++ c :: z) off [v] K := by
  subst e
  refine lputK_eq (by simp) (by simpa using hs) ?_
  simpa using hk
theorem stV {ws : List Nat} {y off n : Nat} {z : Int} {K : List AV → Prop} (e : off = ws.length) (hz : z = (y : Int)) (hn : 0 < n) (hk : K ((ws ++ [y]).map W ++ List.replicate (n - 1) (W 0))) : lputK (ws.map W ++ List.replicate n (W 0)) off [.int .u32 z] K := by
  subst hz
  obtain ⟨m, rfl⟩ : ∃ m, n = m + 1 := ⟨n - 1, by omega⟩
  rw [List.replicate_succ]
  refine lput1 (by simpa using e) rfl ?_
  simpa using hk
theorem stU {ws : List Nat} {y y0 off : Nat} {z : Int} {r : List AV} {K : List AV → Prop} (e : off = ws.length) (hz : z = (y : Int)) (hk : K ((ws ++ [y]).map W ++ r)) : lputK ((ws ++ [y0]).map W ++ r) off [.int .u32 z] K := by
  subst hz
  have e1 : ∀ y, (ws ++ [y]).map W ++ r = ws.map W ++ W y :: r := fun y => by simp
  rw [e1] at hk ⊢
  exact lput1 (by simpa using e) rfl hk
theorem rstep {y b : Nat} (hb : b < 4294967296) : IntKind.u32.wrap (BitVec.ofInt IntKind.u32.bits (IntKind.u32.wrap ((y : Int) * 2 ^ 8)) ||| BitVec.ofInt IntKind.u32.bits (b : Int)).toNat = ((wstep y b : Nat) : Int) := by
  rw [wshl, wor (Nat.mod_lt _ (by omega)) hb]; rfl
theorem rsg {p i j k : Nat} (hp : p < 4294967296) : IntKind.u32.wrap (BitVec.ofInt IntKind.u32.bits (IntKind.u32.wrap (BitVec.ofInt IntKind.u32.bits ((rotr p i : Nat) : Int) ^^^ BitVec.ofInt IntKind.u32.bits ((rotr p j : Nat) : Int)).toNat) ^^^ BitVec.ofInt IntKind.u32.bits ((p : Int).fdiv (2 ^ k))).toNat = ((rotr p i ^^^ rotr p j ^^^ (p / 2 ^ k) : Nat) : Int) := by
  rw [wxor (rotr_lt hp i) (rotr_lt hp j), wshr, wxor (xor_lt (rotr_lt hp i) (rotr_lt hp j)) (shr_lt hp k)]
theorem rnxt {a p c q : Nat} (hp : p < 4294967296) (hq : q < 4294967296) :
    IntKind.u32.wrap (IntKind.u32.wrap (IntKind.u32.wrap ((a : Int) + IntKind.u32.wrap (BitVec.ofInt IntKind.u32.bits (IntKind.u32.wrap (BitVec.ofInt IntKind.u32.bits ((rotr p 7 : Nat) : Int) ^^^ BitVec.ofInt IntKind.u32.bits ((rotr p 18 : Nat) : Int)).toNat) ^^^ BitVec.ofInt IntKind.u32.bits ((p : Int).fdiv (2 ^ 3))).toNat) + (c : Int)) +
      IntKind.u32.wrap (BitVec.ofInt IntKind.u32.bits (IntKind.u32.wrap (BitVec.ofInt IntKind.u32.bits ((rotr q 17 : Nat) : Int) ^^^ BitVec.ofInt IntKind.u32.bits ((rotr q 19 : Nat) : Int)).toNat) ^^^ BitVec.ofInt IntKind.u32.bits ((q : Int).fdiv (2 ^ 10))).toNat) =
    (((((a + sg0 p) % 4294967296 + c) % 4294967296 + sg1 q) % 4294967296 : Nat) : Int) := by
  rw [rsg hp, rsg hq, wadd, wadd, wadd]; rfl
theorem tkW {ws : List Nat} {z : List AV} {K : List AV → Prop} {n : Nat} (h : ws.length = n) (hk : K (ws.map W)) : takeK n ((ws.map W ++ z).drop 0) K := by
  subst h
  rw [List.drop_zero, takeK_eq _ _ _ (by simp)]
  rw [List.take_append_of_le_length (by simp), List.take_of_length_le (by simp)]
  exact hk
theorem tkW' {ws : List Nat} {K : List AV → Prop} {n : Nat} (h : ws.length = n) (hk : K (ws.map W)) : takeK n ((ws.map W).drop 0) K := by
  have := tkW (z := []) h hk
  rwa [List.append_nil] at this
theorem condT {b : Bool} {P : Prop} (h : b = true) (hp : P) : (bif b then P else False) := by rw [h]; exact hp
theorem lputA {cs vs : List AV} {K : List AV → Prop} (h : vs.length = cs.length) (hs : vs.all scal = true) (hk : K vs) : lputK cs 0 vs K := by
  refine lputK_eq (by omega) hs ?_
  simpa [h] using hk
theorem scal_ws (ws : List Nat) : (ws.map W).all scal = true := by
  rw [List.all_eq_true]; intro c h; obtain ⟨x, _, rfl⟩ := List.mem_map.1 h; rfl
def L63 (bs : List Nat) (cap : Option Nat) (m : Nat) (fr : Fr) (H : Heap) : Prop := ∃ t : Nat, t ≤ 64 ∧ m = 64 - t ∧ fr = [(0, .dslice (bs.map B) 64 cap), (2, .ptr 0 0), (3, .ptr 1 0), (11, I t)] ∧ H = ⟨2, [(0, .cells (List.replicate 64 (W 0))), (1, .cells ((sched bs t).map W ++ List.replicate (64 - t) (W 0)))]⟩
theorem noLoc_ws (ws : List Nat) (n : Nat) : ∀ c ∈ ws.map W ++ List.replicate n (W 0), noLoc c = true := by
  intro c h
  rcases List.mem_append.1 h with h | h
  · obtain ⟨x, _, rfl⟩ := List.mem_map.1 h; rfl
  · rw [(List.mem_replicate.1 h).2]; rfl
theorem noLocL_ws : ∀ ws : List Nat, noLocL (ws.map W) = true
  | [] => rfl
  | x :: r => by simp [noLocL, noLoc, noLocL_ws r]
theorem c63 (bs : List Nat) (cap : Option Nat) (hl : bs.length = 64) (hb : ∀ x ∈ bs, x < 256) : CallA Tryd.prog 63 [.dslice (bs.map B) 64 cap] Heap.nil fun v H' => v = .agg ((sched bs 64).map W) ∧ H' = Heap.nil := by
  refine callA_of ok63 (Nat.le_of_ble_eq_true rfl) ?_
  repeat' ((conv => whnf); first
      | refine Branch.ofT rfl ?_
      | refine Branch.ofF rfl ?_
      | refine Branch.dec (fun h => ?_) (fun h => ?_)
      | refine Branch.negdec (fun h => ?_) (fun h => ?_)
      | refine Branch.neg (fun h => ?_) (fun h => ?_)
      | refine Branch.mk (fun h => ?_) (fun h => ?_)
      | (refine Side.mk ?_ ?_; · first | omega | decide)
      | (refine SideD.mk ?_ ?_; · first | omega | decide)
      | refine ⟨_, Nat.lt_succ_self _, To.refl (.inl ⟨rfl, ?_⟩)⟩
      | (refine Side.mk ?_ ?_; · (simp; done))
      | fail
      )
  all_goals (conv => whnf)
  refine ⟨L63 bs cap, 64, To.gc [(0, true), (1, true)] [0, 2, 3, 11] rfl ⟨noLoc_ws [] 64, noLoc_ws [] 64, trivial⟩ ⟨0, by omega, rfl, rfl, rfl⟩, ?_⟩
  rintro m fr H ⟨t, ht, rfl, rfl, rfl⟩
  have hg : ∀ i, (sched bs t).getD i 0 < 4294967296 := getD_lt (sched_lt hb t) (by omega)
  have hB : ∀ i, bs.getD i 0 < 4294967296 := fun i => Nat.lt_trans (getD_lt hb (by omega) i) (by omega)
  have g15 := hg (t - 15)
  have g2 := hg (t - 2)
  have sl := sched_len bs t
  by_cases h64 : t < 64
  · by_cases h16 : t < 16
    · repeat' ((conv => whnf); first
          | refine Branch.ofT rfl ?_
          | refine Branch.ofF rfl ?_
          | refine Branch.ofT (decide_eq_true (by omega)) ?_
          | refine Branch.ofF (decide_eq_false (by omega)) ?_
          | refine Branch.dec (fun h => ?_) (fun h => ?_)
          | refine Branch.negdec (fun h => ?_) (fun h => ?_)
          | refine Branch.neg (fun h => ?_) (fun h => ?_)
          | refine Branch.mk (fun h => ?_) (fun h => ?_)
          | (refine Side.mk ?_ ?_; · first | omega | decide)
          | (refine SideD.mk ?_ ?_; · first | omega | decide)
          | refine ⟨_, Nat.lt_succ_self _, To.refl (.inl ⟨rfl, ?_⟩)⟩
          | refine LoopA.unroll _ _ _ 4 ?_
          | refine ldB (off := 4 * t) (j := 0) (by omega) (by rfl) (by omega) (by omega) (by omega) ?_
          | refine ldB (off := 4 * t) (j := 1) (by omega) (by rfl) (by omega) (by omega) (by omega) ?_
          | refine ldB (off := 4 * t) (j := 2) (by omega) (by rfl) (by omega) (by omega) (by omega) ?_
          | refine ldB (off := 4 * t) (j := 3) (by omega) (by rfl) (by omega) (by omega) (by omega) ?_
          | refine Side.mk (u32ok (hB _)) ?_
          | refine ldL (by omega) ?_
          | refine ld0 (by omega) (by omega) ?_
          | refine stU (by omega) (rstep (hB _)) ?_
          | refine stV (by omega) (rstep (hB _)) (by omega) ?_
          | (refine Side.mk ?_ ?_; · (simp; done))
          | fail
          )
      all_goals (conv => whnf)
      have e1 : sched bs (t + 1) = sched bs t ++ [word (bs.getD (4 * t) 0) (bs.getD (4 * t + 1) 0) (bs.getD (4 * t + 2) 0) (bs.getD (4 * t + 3) 0)] := by
        show sched bs t ++ [nxt bs (sched bs t) t] = _
        unfold nxt; rw [if_pos h16]
      exact ⟨64 - (t + 1), by omega, To.gc [(0, true), (1, true)] [0, 2, 3, 11] rfl ⟨noLoc_ws [] 64, noLoc_ws _ _, trivial⟩ ⟨t + 1, by omega, rfl, rfl, by rw [e1, show 64 - (t + 1) = 64 - t - 1 by omega]; rfl⟩⟩
    · have e : nxt bs (sched bs t) t = ((((sched bs t).getD (t - 16) 0 + sg0 ((sched bs t).getD (t - 15) 0)) % 4294967296 + (sched bs t).getD (t - 7) 0) % 4294967296 + sg1 ((sched bs t).getD (t - 2) 0)) % 4294967296 := by unfold nxt; rw [if_neg h16]
      repeat' ((conv => whnf); first
          | refine Branch.ofT rfl ?_
          | refine Branch.ofF rfl ?_
          | refine Branch.ofT (decide_eq_true (by omega)) ?_
          | refine Branch.ofF (decide_eq_false (by omega)) ?_
          | refine Branch.dec (fun h => ?_) (fun h => ?_)
          | refine Branch.negdec (fun h => ?_) (fun h => ?_)
          | refine Branch.neg (fun h => ?_) (fun h => ?_)
          | refine Branch.mk (fun h => ?_) (fun h => ?_)
          | (refine Side.mk ?_ ?_; · first | omega | decide)
          | (refine SideD.mk ?_ ?_; · first | omega | decide)
          | refine ⟨_, Nat.lt_succ_self _, To.refl (.inl ⟨rfl, ?_⟩)⟩
          | refine ldI (i := t - 15) (by omega) (by rw [sched_len]; omega) ?_
          | refine ldI (i := t - 2) (by omega) (by rw [sched_len]; omega) ?_
          | refine ldI (i := t - 16) (by omega) (by rw [sched_len]; omega) ?_
          | refine ldI (i := t - 7) (by omega) (by rw [sched_len]; omega) ?_
          | refine CallA.pure (c65 _ 7 (by assumption) (by decide)) rfl rfl ?_
          | refine CallA.pure (c65 _ 18 (by assumption) (by decide)) rfl rfl ?_
          | refine CallA.pure (c65 _ 17 (by assumption) (by decide)) rfl rfl ?_
          | refine CallA.pure (c65 _ 19 (by assumption) (by decide)) rfl rfl ?_
          | refine stV (by omega) ((rnxt g15 g2).trans (by rw [← e])) (by omega) ?_
          | (refine Side.mk ?_ ?_; · (simp; done))
          | fail
          )
      all_goals (conv => whnf)
      exact ⟨64 - (t + 1), by omega, To.gc [(0, true), (1, true)] [0, 2, 3, 11] rfl ⟨noLoc_ws [] 64, noLoc_ws _ _, trivial⟩ ⟨t + 1, by omega, rfl, rfl, by rw [show 64 - (t + 1) = 64 - t - 1 by omega]; rfl⟩⟩
  · repeat' ((conv => whnf); first
        | refine Branch.ofT rfl ?_
        | refine Branch.ofF rfl ?_
        | refine Branch.ofF (decide_eq_false (by omega)) ?_
        | refine Branch.dec (fun h => ?_) (fun h => ?_)
        | refine Branch.negdec (fun h => ?_) (fun h => ?_)
        | refine Branch.neg (fun h => ?_) (fun h => ?_)
        | refine Branch.mk (fun h => ?_) (fun h => ?_)
        | (refine Side.mk ?_ ?_; · first | omega | decide)
        | (refine SideD.mk ?_ ?_; · first | omega | decide)
        | refine ⟨_, Nat.lt_succ_self _, To.refl (.inl ⟨rfl, ?_⟩)⟩
        | refine tkW (by omega) ?_
        | refine tkW' (by omega) ?_
        | refine condT (by simp [sl]; omega) ?_
        | refine lputA (by simp; omega) (scal_ws _) ?_
        | (refine Side.mk ?_ ?_; · (simp; done))
        | fail
        )
    all_goals (conv => whnf)
    have : t = 64 := by omega
    subst this
    generalize sched bs 64 = ws
    exact RetA.data (v := .agg (ws.map W)) (noLocL_ws ws) ⟨rfl, rfl⟩
end Go.Proofs

namespace Go.Proofs
open Go Go.Eng
set_option maxRecDepth 100000
set_option maxHeartbeats 4000000
def KS : List Nat := [1116352408, 1899447441, 3049323471, 3921009573, 961987163, 1508970993, 2453635748, 2870763221, 3624381080, 310598401, 607225278, 1426881987, 1925078388, 2162078206, 2614888103, 3248222580, 3835390401, 4022224774, 264347078, 604807628, 770255983, 1249150122, 1555081692, 1996064986, 2554220882, 2821834349, 2952996808, 3210313671, 3336571891, 3584528711, 113926993, 338241895, 666307205, 773529912, 1294757372, 1396182291, 1695183700, 1986661051, 2177026350, 2456956037, 2730485921, 2820302411, 3259730800, 3345764771, 3516065817, 3600352804, 4094571909, 275423344, 430227734, 506948616, 659060556, 883997877, 958139571, 1322822218, 1537002063, 1747873779, 1955562222, 2024104815, 2227730452, 2361852424, 2428436474, 2756734187, 3204031479, 3329325298]
theorem ks_eq : ks = KS.map W := rfl
structure S8 where
  (a b c d e f g h : Nat)
def S8.ok (s : S8) : Prop := s.a < 4294967296 ∧ s.b < 4294967296 ∧ s.c < 4294967296 ∧ s.d < 4294967296 ∧ s.e < 4294967296 ∧ s.f < 4294967296 ∧ s.g < 4294967296 ∧ s.h < 4294967296
def chN (e f g : Nat) : Nat := (e &&& f) ^^^ ((4294967295 ^^^ e) &&& g)
def majN (a b c : Nat) : Nat := (a &&& b) ^^^ (a &&& c) ^^^ (b &&& c)
def t1N (s : S8) (k w : Nat) : Nat := ((((s.h + mixN s.e 6 11 25) % 4294967296 + chN s.e s.f s.g) % 4294967296 + k) % 4294967296 + w) % 4294967296
def t2N (s : S8) : Nat := (mixN s.a 2 13 22 + majN s.a s.b s.c) % 4294967296
def S8.round (s : S8) (k w : Nat) : S8 := ⟨(t1N s k w + t2N s) % 4294967296, s.a, s.b, s.c, (s.d + t1N s k w) % 4294967296, s.e, s.f, s.g⟩
def rounds (ws : List Nat) (s : S8) : Nat → S8
  | 0 => s
  | t + 1 => (rounds ws s t).round (KS.getD t 0) (ws.getD t 0)
def S8.add (s v : S8) : S8 := ⟨(s.a + v.a) % 4294967296, (s.b + v.b) % 4294967296, (s.c + v.c) % 4294967296, (s.d + v.d) % 4294967296, (s.e + v.e) % 4294967296, (s.f + v.f) % 4294967296, (s.g + v.g) % 4294967296, (s.h + v.h) % 4294967296⟩
def S8.av (s : S8) : List AV := [W s.a, W s.b, W s.c, W s.d, W s.e, W s.f, W s.g, W s.h]
def compN (s : S8) (bs : List Nat) : S8 := s.add (rounds (sched bs 64) s 64)
theorem round_ok {s : S8} (h : s.ok) (k w : Nat) : (s.round k w).ok := ⟨Nat.mod_lt _ (by omega), h.1, h.2.1, h.2.2.1, Nat.mod_lt _ (by omega), h.2.2.2.2.1, h.2.2.2.2.2.1, h.2.2.2.2.2.2.1⟩
theorem rounds_ok {ws : List Nat} {s : S8} (h : s.ok) : ∀ t, (rounds ws s t).ok
  | 0 => h
  | t + 1 => round_ok (rounds_ok h t) _ _
def v4 (s : S8) : List AV := [W s.a, W s.b, W s.c, W s.d]
def e4 (s : S8) : List AV := [W s.e, W s.f, W s.g, W s.h]
def z8 : List AV := [W 0, W 0, W 0, W 0, W 0, W 0, W 0, W 0]
attribute [local irreducible] sched
def L57 (ws : List Nat) (s : S8) (m : Nat) (fr : Fr) (H : Heap) : Prop := ∃ t : Nat, t ≤ 64 ∧ m = 64 - t ∧ fr = [(2, .ptr 0 0), (4, .ptr 1 0), (5, .ptr 2 0), (6, .ptr 3 0), (7, .ptr 4 0), (21, .agg (KS.map W)), (22, I t)] ∧ H = ⟨5, [(0, .cells s.av), (1, .cells z8), (2, .cells (ws.map W)), (3, .cells (v4 (rounds ws s t))), (4, .cells (e4 (rounds ws s t)))]⟩
abbrev bA (a b : Int) : Int := IntKind.u32.wrap (BitVec.ofInt IntKind.u32.bits a &&& BitVec.ofInt IntKind.u32.bits b).toNat
abbrev bX (a b : Int) : Int := IntKind.u32.wrap (BitVec.ofInt IntKind.u32.bits a ^^^ BitVec.ofInt IntKind.u32.bits b).toNat
theorem bA_eq {a b : Nat} (ha : a < 4294967296) (hb : b < 4294967296) : bA a b = ((a &&& b : Nat) : Int) := wand ha hb
theorem bX_eq {a b : Nat} (ha : a < 4294967296) (hb : b < 4294967296) : bX a b = ((a ^^^ b : Nat) : Int) := wxor ha hb
theorem bN {e : Nat} (h : e < 4294967296) : bX (if IntKind.u32.signed then -1 else IntKind.u32.max) (e : Int) = ((4294967295 ^^^ e : Nat) : Int) := by
  have : (if IntKind.u32.signed then -1 else IntKind.u32.max) = ((4294967295 : Nat) : Int) := rfl
  rw [this]; exact wxor (by omega) h
theorem rx {s : S8} (hs : s.ok) (k w : Nat) : IntKind.u32.wrap (IntKind.u32.wrap (IntKind.u32.wrap (IntKind.u32.wrap ((s.h : Int) + ((mixN s.e 6 11 25 : Nat) : Int)) + bX (bA s.e s.f) (bA (bX (if IntKind.u32.signed then -1 else IntKind.u32.max) (s.e : Int)) s.g)) + (k : Int)) + (w : Int)) = ((t1N s k w : Nat) : Int) := by
  obtain ⟨_, _, _, _, he, hf, hg, _⟩ := hs
  rw [bN he, bA_eq he hf, bA_eq (xor_lt (by omega) he) hg, bX_eq (and_lt hf) (and_lt hg), wadd, wadd, wadd, wadd]; rfl
theorem ry {s : S8} (hs : s.ok) : IntKind.u32.wrap (((mixN s.a 2 13 22 : Nat) : Int) + bX (bX (bA s.a s.b) (bA s.a s.c)) (bA s.b s.c)) = ((t2N s : Nat) : Int) := by
  obtain ⟨ha, hb, hc, _⟩ := hs
  rw [bA_eq ha hb, bA_eq ha hc, bA_eq hb hc, bX_eq (and_lt hb) (and_lt hc), bX_eq (xor_lt (and_lt hb) (and_lt hc)) (and_lt hc), wadd]; rfl
theorem cong2 {a b c d : Int} (h : a = b) (k : c = d) : IntKind.u32.wrap (a + c) = IntKind.u32.wrap (b + d) := by rw [h, k]
theorem heq57 {C0 C1 C2 : List AV} {A E A' E' : Int} {b c d f g h : AV} (hA : A = A') (hE : E = E') : (⟨5, [(0, .cells C0), (1, .cells C1), (2, .cells C2), (3, .cells [.int .u32 A, b, c, d]), (4, .cells [.int .u32 E, f, g, h])]⟩ : Heap) = ⟨5, [(0, .cells C0), (1, .cells C1), (2, .cells C2), (3, .cells [.int .u32 A', b, c, d]), (4, .cells [.int .u32 E', f, g, h])]⟩ := by
  subst hA hE; rfl
theorem ldW {ws : List Nat} {i off : Nat} {K : AV → Prop} (e : off = i) (h : i < ws.length) (hk : K (W (ws.getD i 0))) : nthK 0 ((ws.map W).drop off) K := by
  have := ldI (z := []) e h hk
  rwa [List.append_nil] at this
theorem dat {l : List AV} (h : l.all noLoc = true) : ∀ c ∈ l, noLoc c = true := by simpa using h
theorem dat_ws (ws : List Nat) : ∀ c ∈ ws.map W, noLoc c = true := by
  intro c h; obtain ⟨x, _, rfl⟩ := List.mem_map.1 h; rfl
theorem ks_len : KS.length = 64 := rfl
theorem rounds_zero (ws : List Nat) (s : S8) : rounds ws s 0 = s := rfl
theorem rounds_succ (ws : List Nat) (s : S8) (t : Nat) : rounds ws s (t + 1) = (rounds ws s t).round (KS.getD t 0) (ws.getD t 0) := rfl
attribute [local irreducible] rounds t1N t2N mixN
theorem c57a (s : S8) (bs ws : List Nat) (cap : Option Nat) (hs : s.ok) (h63 : CallA Tryd.prog 63 [.dslice (bs.map B) 64 cap] Heap.nil fun v H' => v = .agg (ws.map W) ∧ H' = Heap.nil) (wl : ws.length = 64) (wlt : ∀ x ∈ ws, x < 4294967296) : CallA Tryd.prog 57 [.agg s.av, .dslice (bs.map B) 64 cap] Heap.nil fun v H' => v = .agg (s.add (rounds ws s 64)).av ∧ H' = Heap.nil := by
  refine callA_of ok57 (Nat.le_of_ble_eq_true rfl) ?_
  repeat' ((conv => whnf); first
      | refine Branch.ofT rfl ?_
      | refine Branch.ofF rfl ?_
      | refine Branch.dec (fun h => ?_) (fun h => ?_)
      | refine Branch.negdec (fun h => ?_) (fun h => ?_)
      | refine Branch.neg (fun h => ?_) (fun h => ?_)
      | refine Branch.mk (fun h => ?_) (fun h => ?_)
      | (refine Side.mk ?_ ?_; · first | omega | decide)
      | (refine SideD.mk ?_ ?_; · first | omega | decide)
      | refine ⟨_, Nat.lt_succ_self _, To.refl (.inl ⟨rfl, ?_⟩)⟩
      | refine CallA.pure h63 rfl (noLocL_ws ws) ?_
      | refine condT (by simp [wl]) ?_
      | refine lputA (by simp [wl]) (scal_ws _) ?_
      | refine Side.mk (by simp [S8.av]) ?_
      | (refine Side.mk ?_ ?_; · (simp; done))
      | fail
      )
  all_goals (conv => whnf)
  refine ⟨L57 ws s, 64, To.gc [(0, true), (1, true), (2, true), (9, true), (10, true)] [2, 4, 5, 6, 7, 21, 22] rfl ⟨dat rfl, dat rfl, dat_ws ws, dat rfl, dat rfl, trivial⟩ ⟨0, by omega, rfl, ?_, ?_⟩, ?_⟩
  · rfl
  · rw [rounds_zero]; rfl
  rintro m fr H ⟨t, ht, rfl, rfl, rfl⟩
  have hr := rounds_ok (ws := ws) hs t
  have hn : rounds ws s (t + 1) = (rounds ws s t).round (KS.getD t 0) (ws.getD t 0) := rounds_succ ws s t
  generalize hr0 : rounds ws s t = r at hr hn
  by_cases h64 : t < 64
  · repeat' ((conv => whnf); first
        | refine Branch.ofT rfl ?_
        | refine Branch.ofF rfl ?_
        | refine Branch.ofT (decide_eq_true (by omega)) ?_
        | refine Branch.dec (fun h => ?_) (fun h => ?_)
        | refine Branch.negdec (fun h => ?_) (fun h => ?_)
        | refine Branch.neg (fun h => ?_) (fun h => ?_)
        | refine Branch.mk (fun h => ?_) (fun h => ?_)
        | (refine Side.mk ?_ ?_; · first | omega | decide)
        | (refine SideD.mk ?_ ?_; · first | omega | decide)
        | refine ⟨_, Nat.lt_succ_self _, To.refl (.inl ⟨rfl, ?_⟩)⟩
        | refine ldW (ws := KS) (i := t) (by omega) (by rw [ks_len]; omega) ?_
        | refine ldW (ws := ws) (i := t) (by omega) (by omega) ?_
        | refine QCallA.of (c64 r.e 6 11 25 hr.2.2.2.2.1 (by decide) (by decide) (by decide)) rfl rfl ?_
        | refine QCallA.of (c64 r.a 2 13 22 hr.1 (by decide) (by decide) (by decide)) rfl rfl ?_
        | (refine Side.mk ?_ ?_; · (simp; done))
        | fail
        )
    all_goals (conv => whnf)
    have hx := rx hr (KS.getD t 0) (ws.getD t 0)
    have hA := (cong2 hx (ry hr)).trans (wadd _ _)
    have hE := (congrArg (fun x : Int => IntKind.u32.wrap ((r.d : Int) + x)) hx).trans (wadd _ _)
    exact ⟨64 - (t + 1), by omega, To.gc [(0, true), (1, true), (2, true), (3, true), (4, true)] [2, 4, 5, 6, 7, 21, 22] rfl ⟨dat rfl, dat rfl, dat_ws ws, dat rfl, dat rfl, trivial⟩ ⟨t + 1, by omega, rfl, rfl, by rw [hn]; exact heq57 hA hE⟩⟩
  · repeat' ((conv => whnf); first
        | refine Branch.ofT rfl ?_
        | refine Branch.ofF rfl ?_
        | refine Branch.ofF (decide_eq_false (by omega)) ?_
        | refine Branch.dec (fun h => ?_) (fun h => ?_)
        | refine Branch.negdec (fun h => ?_) (fun h => ?_)
        | refine Branch.neg (fun h => ?_) (fun h => ?_)
        | refine Branch.mk (fun h => ?_) (fun h => ?_)
        | (refine Side.mk ?_ ?_; · first | omega | decide)
        | (refine SideD.mk ?_ ?_; · first | omega | decide)
        | refine ⟨_, Nat.lt_succ_self _, To.refl (.inl ⟨rfl, ?_⟩)⟩
        | refine LoopA.unroll _ _ _ 4 ?_
        | refine Side.mk (by simp [S8.av]) ?_
        | (refine Side.mk ?_ ?_; · (simp; done))
        | fail
        )
    all_goals (conv => whnf)
    have : t = 64 := by omega
    subst this
    rw [hr0]
    refine RetA.data (v := .agg [_, _, _, _, _, _, _, _]) rfl ⟨?_, rfl⟩
    simp only [wadd]
    rfl
theorem c57 (s : S8) (bs : List Nat) (cap : Option Nat) (hs : s.ok) (hl : bs.length = 64) (hb : ∀ x ∈ bs, x < 256) : CallA Tryd.prog 57 [.agg s.av, .dslice (bs.map B) 64 cap] Heap.nil fun v H' => v = .agg (compN s bs).av ∧ H' = Heap.nil :=
  c57a s bs (sched bs 64) cap hs (c63 bs cap hl hb) (sched_len bs 64) (sched_lt hb 64)
end Go.Proofs

namespace Go.Proofs
open Go Go.Eng
set_option maxRecDepth 100000
set_option maxHeartbeats 2000000
/-- A disk, and the sectors that are written and not yet durable. -/
def ent (x : Nat × List AV) : AV × AV := (I x.1, .dslice x.2 1 none)
def emap (ls : List (Nat × List AV)) : List (AV × AV) := ls.map ent
def dk (n : Nat) (st : Int) : List AV := [.slice 1 0 n (some n) 65, .map 2, I st, I (-1), .bool false]
def hS (n : Nat) (st : Int) (ch : List (List AV)) (ls : List (Nat × List AV)) : Heap := ⟨3, [(0, .cells (dk n st)), (1, .cells ch.flatten), (2, .map (emap ls))]⟩
theorem c39 (n : Nat) (st : Int) (ch : List (List AV)) (ls : List (Nat × List AV)) (hn : 0 < n) : CallA Tryd.prog 39 [.ptr 0 0, I 0] (hS n st ch ls) fun v H' => v = I 0 ∧ H' = hS n st ch ls := by
  refine callA_of ok39 (Nat.le_of_ble_eq_true rfl) ?_
  repeat' ((conv => whnf); first
      | refine Branch.ofT rfl ?_
      | refine Branch.ofF rfl ?_
      | refine Branch.ofF (decide_eq_false (by omega)) ?_
      | refine Branch.dec (fun h => ?_) (fun h => ?_)
      | refine Branch.negdec (fun h => ?_) (fun h => ?_)
      | refine Branch.neg (fun h => ?_) (fun h => ?_)
      | refine Branch.mk (fun h => ?_) (fun h => ?_)
      | (refine Side.mk ?_ ?_; · first | omega | decide)
      | (refine SideD.mk ?_ ?_; · first | omega | decide)
      | refine ⟨_, Nat.lt_succ_self _, To.refl (.inl ⟨rfl, ?_⟩)⟩
      | (refine Side.mk ?_ ?_; · (simp; done))
      | fail
      )
  all_goals (conv => whnf)
  all_goals exact RetA.same ⟨rfl, rfl⟩
theorem c46 (n : Nat) (st : Int) (ch : List (List AV)) (ls : List (Nat × List AV)) (h0 : 0 ≤ st) (h1 : st < 1000000) : CallA Tryd.prog 46 [.ptr 0 0] (hS n st ch ls) fun v H' => v = I 0 ∧ H' = hS n (st + 1) ch ls := by
  refine CallA.ext (K := fun v H' => v = I 0 ∧ H'.get = (hS n (st + 1) ch ls).get ∧ H'.nx = 3) ?_ (fun v H' h => ⟨_, h.2.1, h.2.2, h.1, rfl⟩)
  refine callA_of ok46 (Nat.le_of_ble_eq_true rfl) ?_
  repeat' ((conv => whnf); first
      | refine Branch.ofT rfl ?_
      | refine Branch.ofF rfl ?_
      | refine Branch.ofF (decide_eq_false (by omega)) ?_
      | refine Branch.dec (fun h => ?_) (fun h => ?_)
      | refine Branch.negdec (fun h => ?_) (fun h => ?_)
      | refine Branch.neg (fun h => ?_) (fun h => ?_)
      | refine Branch.mk (fun h => ?_) (fun h => ?_)
      | (refine Side.mk ?_ ?_; · first | omega | decide)
      | (refine SideD.mk ?_ ?_; · first | omega | decide)
      | refine ⟨_, Nat.lt_succ_self _, To.refl (.inl ⟨rfl, ?_⟩)⟩
      | (refine Side.mk ?_ ?_; · (simp; done))
      | fail
      )
  all_goals (conv => whnf)
  refine RetA.same ⟨rfl, ?_, rfl⟩
  funext j
  cases j <;> rfl
def fin1 (ch : List (List AV)) (x : Nat × List AV) : List (List AV) := ch.set x.1 (x.2 ++ [.bool false])
def fin (ch : List (List AV)) (ls : List (Nat × List AV)) : List (List AV) := ls.foldl fin1 ch
structure OkS (n : Nat) (ch : List (List AV)) (ls : List (Nat × List AV)) : Prop where
  len : ch.length = n
  pos : 0 < n
  sz : ∀ c ∈ ch, c.length = 65 ∧ ∀ x ∈ c, noLoc x = true
  keys : (ls.map (·.1)).Nodup
  lt : ∀ x ∈ ls, x.1 < n
  ent : ∀ x ∈ ls, x.2.length = 64 ∧ (∀ c ∈ x.2, scal c = true) ∧ ∀ c ∈ x.2, noLoc c = true
theorem fin_swap (ch : List (List AV)) {x y : Nat × List AV} (h : x.1 ≠ y.1) : fin1 (fin1 ch x) y = fin1 (fin1 ch y) x := by
  unfold fin1; rw [List.set_comm _ _ h]
theorem fin_out : ∀ (l1 : List (Nat × List AV)) (x : Nat × List AV) (l2 : List (Nat × List AV)) (ch : List (List AV)), ((l1 ++ x :: l2).map (·.1)).Nodup → fin ch (l1 ++ x :: l2) = fin (fin1 ch x) (l1 ++ l2)
  | [], x, l2, ch, _ => rfl
  | y :: l1, x, l2, ch, h => by
    simp only [List.cons_append, List.map_cons, List.nodup_cons] at h
    show fin (fin1 ch y) (l1 ++ x :: l2) = fin (fin1 (fin1 ch x) y) (l1 ++ l2)
    rw [fin_out l1 x l2 _ h.2, fin_swap ch (x := x) (y := y)]
    intro e
    exact h.1 (by rw [← e]; simp)
theorem OkS.out {n : Nat} {ch : List (List AV)} {l1 l2 : List (Nat × List AV)} {x : Nat × List AV} (h : OkS n ch (l1 ++ x :: l2)) : OkS n (fin1 ch x) (l1 ++ l2) := by
  have hx := h.ent x (by simp)
  refine ⟨by unfold fin1; simp [h.len], h.pos, fun c hc => ?_, ?_, fun y hy => h.lt y ?_, fun y hy => h.ent y ?_⟩
  · rcases List.mem_or_eq_of_mem_set hc with hc | rfl
    · exact h.sz c hc
    · refine ⟨by simp [hx.1], fun d hd => ?_⟩
      rcases List.mem_append.1 hd with hd | hd
      · exact hx.2.2 d hd
      · rw [List.mem_singleton.1 hd]; rfl
  · have := h.keys
    rw [List.map_append, List.map_cons, List.nodup_append] at this
    rw [List.map_append, List.nodup_append]
    exact ⟨this.1, (List.nodup_cons.1 this.2.1).2, fun a ha b hb => this.2.2 a ha b (List.mem_cons_of_mem _ hb)⟩
  all_goals (rcases List.mem_append.1 hy with hy | hy <;> simp [hy])
def L38 (n : Nat) (st : Int) (cf : List (List AV)) (m : Nat) (fr : Fr) (H : Heap) : Prop := ∃ ch ls, OkS n ch ls ∧ m = ls.length ∧ fin ch ls = cf ∧ fr = [(0, .ptr 0 0), (19, .ptr 3 0)] ∧ H = ⟨4, [(0, .cells (dk n st)), (1, .cells ch.flatten), (2, .map (emap ls)), (3, .iter 2 (emap ls) none)]⟩
theorem emap_split {ls : List (Nat × List AV)} {l1 l2 : List (AV × AV)} {a b : AV} (h : emap ls = l1 ++ (a, b) :: l2) : ∃ m1 x m2, ls = m1 ++ x :: m2 ∧ l1 = emap m1 ∧ a = I x.1 ∧ b = .dslice x.2 1 none ∧ l2 = emap m2 := by
  obtain ⟨m1, r, rfl, rfl, h2⟩ := List.map_eq_append_iff.1 h
  obtain ⟨x, m2, rfl, h3, rfl⟩ := List.map_eq_cons_iff.1 h2
  simp only [ent, Prod.mk.injEq] at h3
  exact ⟨m1, x, m2, rfl, rfl, h3.1.symm, h3.2.symm, rfl⟩
theorem tkA {l : List AV} {n k : Nat} {K : List AV → Prop} (hk : k = 0) (h : l.length = n) (hK : K l) : takeK n (l.drop k) K := by
  subst hk h
  rw [List.drop_zero, takeK_eq _ _ _ (Nat.le_refl _), List.take_length]; exact hK
theorem lput65 {cs vs : List AV} {K : List AV → Prop} (h1 : cs.length = 65) (h2 : cs.drop 64 = [.bool false]) (h3 : vs.length = 64) (hs : ∀ c ∈ vs, scal c = true) (hk : K (vs ++ [.bool false])) : lputK cs 0 vs K := by
  refine lputK_eq (by omega) (by simpa using hs) ?_
  rw [Nat.zero_add, h3, h2]; simpa using hk
theorem scal65 {vs : List AV} (hs : ∀ c ∈ vs, scal c = true) : (vs ++ [AV.bool false]).all scal = true := by
  rw [List.all_append, List.all_eq_true.2 hs]; rfl
theorem stCh : ∀ {ch : List (List AV)} {i off : Nat} {vs : List AV} {K : List AV → Prop}, off = i * 65 → i < ch.length → (∀ c ∈ ch, c.length = 65) → vs.length = 65 → vs.all scal = true → K (ch.set i vs).flatten → lputK ch.flatten off vs K
  | [], _, _, _, _, _, h, _, _, _, _ => by simp at h
  | c :: ch, 0, off, vs, K, e, h, hc, hv, hs, hk => by
    subst e
    have h1 := hc c (by simp)
    refine lputK_eq (by simp; omega) hs ?_
    rw [Nat.zero_mul, Nat.zero_add, hv, List.flatten_cons, List.drop_append, List.drop_eq_nil_of_le (by omega), h1]
    simpa using hk
  | c :: ch, i + 1, off, vs, K, e, h, hc, hv, hs, hk => by
    subst e
    have h1 := hc c (by simp)
    have e : (i + 1) * 65 = c.length + i * 65 := by omega
    rw [e, List.flatten_cons]
    have go : ∀ {l : List AV} {K : List AV → Prop}, lputK ch.flatten (i * 65) vs (fun r => K (l ++ r)) → lputK (l ++ ch.flatten) (l.length + i * 65) vs K := by
      intro l
      induction l with
      | nil => intro K h; simpa using h
      | cons a l ih =>
        intro K h
        have : (a :: l).length + i * 65 = (l.length + i * 65) + 1 := by simp; omega
        rw [this, List.cons_append, lputK]
        exact ih h
    exact go (stCh rfl (by simpa using h) (fun d hd => hc d (by simp [hd])) hv hs hk)
theorem eqI (a b : Int) : eqK (.c (.i .i64)) (I a) (I b) = some (decide (a = b)) := rfl
theorem mfind_out : ∀ {m1 m2 : List (Nat × List AV)} {x : Nat × List AV}, ((m1 ++ x :: m2).map (·.1)).Nodup → mfind (.c (.i .i64)) (I x.1) (emap m1 ++ emap m2) = some none := by
  intro m1 m2 x h
  have key : ∀ l : List (Nat × List AV), x.1 ∉ l.map (·.1) → mfind (.c (.i .i64)) (I x.1) (emap l) = some none := by
    intro l
    induction l with
    | nil => intro _; rfl
    | cons y l ih =>
      intro hx
      simp only [List.map_cons, List.mem_cons, not_or] at hx
      show mfind (.c (.i .i64)) (I x.1) ((I y.1, _) :: emap l) = _
      rw [mfind, eqI, decide_eq_false (by omega)]
      exact ih hx.2
  have : emap m1 ++ emap m2 = emap (m1 ++ m2) := by simp [emap]
  rw [this]
  refine key _ ?_
  rw [List.map_append, List.map_cons, List.nodup_append] at h
  rw [List.map_append, List.mem_append]
  rintro (hm | hm)
  · exact h.2.2 _ hm _ List.mem_cons_self rfl
  · exact (List.nodup_cons.1 h.2.1).1 hm
theorem mdel_out : ∀ {m1 m2 : List (Nat × List AV)} {x : Nat × List AV}, ((m1 ++ x :: m2).map (·.1)).Nodup → mdel (.c (.i .i64)) (I x.1) (emap (m1 ++ x :: m2)) = some (emap (m1 ++ m2))
  | [], m2, x, _ => by
    show mdel (.c (.i .i64)) (I x.1) ((I x.1, _) :: emap m2) = _
    rw [mdel, eqI, decide_eq_true rfl]; rfl
  | y :: m1, m2, x, h => by
    simp only [List.cons_append, List.map_cons, List.nodup_cons] at h
    show mdel (.c (.i .i64)) (I x.1) ((I y.1, _) :: emap (m1 ++ x :: m2)) = _
    rw [mdel, eqI, decide_eq_false (fun e => h.1 (by rw [show y.1 = x.1 by omega]; simp)), mdel_out h.2]
    rfl
theorem emap_app (a b : List (Nat × List AV)) : emap (a ++ b) = emap a ++ emap b := by simp [emap]
theorem OkS.dat {n : Nat} {ch : List (List AV)} {ls : List (Nat × List AV)} (h : OkS n ch ls) : ∀ c ∈ ch.flatten, noLoc c = true := by
  intro c hc
  obtain ⟨l, hl, hc⟩ := List.mem_flatten.1 hc
  exact (h.sz l hl).2 c hc
theorem c38 {n : Nat} {st : Int} {ch : List (List AV)} {ls : List (Nat × List AV)} (h : OkS n ch ls) (hn : n < 1000000) (h0 : 0 ≤ st) (h1 : st < 1000000) : CallA Tryd.prog 38 [.ptr 0 0] (hS n st ch ls) fun v H' => v = I 0 ∧ H' = hS n (st + 1) (fin ch ls) [] := by
  refine callA_of ok38 (Nat.le_of_ble_eq_true rfl) ?_
  have h39 := c39 n st ch ls h.pos
  have h46 := c46 n st ch ls h0 h1
  repeat' ((conv => whnf); first
      | refine Branch.ofT rfl ?_
      | refine Branch.ofF rfl ?_
      | refine Branch.dec (fun h => ?_) (fun h => ?_)
      | refine Branch.negdec (fun h => ?_) (fun h => ?_)
      | refine Branch.neg (fun h => ?_) (fun h => ?_)
      | refine Branch.mk (fun h => ?_) (fun h => ?_)
      | (refine Side.mk ?_ ?_; · first | omega | decide)
      | (refine SideD.mk ?_ ?_; · first | omega | decide)
      | refine ⟨_, Nat.lt_succ_self _, To.refl (.inl ⟨rfl, ?_⟩)⟩
      | refine CallA.ext h39 (fun v H' hv => ⟨_, rfl, rfl, ?_⟩)
      | refine CallA.ext h46 (fun v H' hv => ⟨_, rfl, rfl, ?_⟩)
      | (obtain ⟨rfl, rfl⟩ := hv)
      | (refine Side.mk ?_ ?_; · (simp; done))
      | fail
      )
  all_goals (conv => whnf)
  refine ⟨L38 n (st + 1) (fin ch ls), ls.length, To.gc [(0, false), (1, true), (2, true), (3, false)] [0, 19] rfl ⟨h.dat, trivial, trivial⟩ ⟨ch, ls, h, rfl, rfl, rfl, rfl⟩, ?_⟩
  generalize fin ch ls = cf
  rintro m fr H ⟨ch, ls, h, rfl, rfl, rfl, rfl⟩
  repeat' ((conv => whnf); first
      | refine Branch.ofT rfl ?_
      | refine Branch.ofF rfl ?_
      | refine Branch.dec (fun h => ?_) (fun h => ?_)
      | refine Branch.negdec (fun h => ?_) (fun h => ?_)
      | refine Branch.neg (fun h => ?_) (fun h => ?_)
      | refine Branch.mk (fun h => ?_) (fun h => ?_)
      | (refine Side.mk ?_ ?_; · first | omega | decide)
      | (refine SideD.mk ?_ ?_; · first | omega | decide)
      | refine ⟨_, Nat.lt_succ_self _, To.refl (.inl ⟨rfl, ?_⟩)⟩
      | refine NextA.mk (fun hd => ?_) (fun l1 a b l2 he => ?_)
      | (obtain ⟨m1, x, m2, rfl, rfl, rfl, rfl, rfl⟩ := emap_split he)
      | refine tkA (by rfl) (h.ent x (by simp)).1 ?_
      | refine condT (by simp [(h.ent x (by simp)).1]) ?_
      | refine lput65 rfl rfl (h.ent x (by simp)).1 (h.ent x (by simp)).2.1 ?_
      | refine stCh (i := x.1) (by omega) (by rw [h.len]; exact h.lt x (by simp)) (fun c hc => (h.sz c hc).1) (by simp [(h.ent x (by simp)).1]) (scal65 (h.ent x (by simp)).2.1) ?_
      | refine Side.mk ⟨by omega, by have := h.lt x (by simp); omega⟩ ?_
      | refine MRes.mk ⟨_, mfind_out h.keys, ?_⟩
      | refine MRes.mk ⟨_, mdel_out h.keys, ?_⟩
      | refine Side.mk rfl ?_
      | (refine Side.mk ?_ ?_; · (simp; done))
      | fail
      )
  all_goals (conv => whnf)
  · have : ls = [] := List.map_eq_nil_iff.1 hd
    subst this
    exact RetA.gc [(0, false), (1, true), (2, true)] rfl ⟨h.dat, trivial, trivial⟩ ⟨rfl, rfl⟩
  · exact ⟨(m1 ++ m2).length, by simp, To.gc [(0, false), (1, true), (2, true), (3, false)] [0, 19] rfl ⟨h.out.dat, trivial, trivial⟩ ⟨_, m1 ++ m2, h.out, rfl, (fin_out m1 x m2 ch h.keys).symm, rfl, by rw [emap_app]; rfl⟩⟩
end Go.Proofs

namespace Go.Eng
open Go

variable [Globs]
/-! ### A run of closed text, by computing -/
inductive BT (α : Type) where
  | nil
  | node (v : Option α) (l r : BT α)
namespace BT
variable {α : Type}
def get : BT α → Nat → Option α
  | nil, _ => none
  | node v l r, n => match n with
    | 0 => v
    | n + 1 => bif Nat.beq (Nat.mod n 2) 0 then l.get (Nat.div n 2) else r.get (Nat.div n 2)
def set (v : α) : Nat → BT α → Nat → Option (BT α)
  | 0, _, _ => none
  | d + 1, nil, n => match n with
    | 0 => some (node (some v) nil nil)
    | n + 1 => bif Nat.beq (Nat.mod n 2) 0 then (match set v d nil (Nat.div n 2) with
      | some l => some (node none l nil)
      | none => none) else (match set v d nil (Nat.div n 2) with
      | some r => some (node none nil r)
      | none => none)
  | d + 1, node u l r, n => match n with
    | 0 => some (node (some v) l r)
    | n + 1 => bif Nat.beq (Nat.mod n 2) 0 then (match set v d l (Nat.div n 2) with
      | some l => some (node u l r)
      | none => none) else (match set v d r (Nat.div n 2) with
      | some r => some (node u l r)
      | none => none)
theorem par {n m : Nat} (h : Nat.mod n 2 = Nat.mod m 2) (k : Nat.div n 2 = Nat.div m 2) : n = m := by
  have h : n % 2 = m % 2 := h
  have k : n / 2 = m / 2 := k
  omega
theorem get_set (v : α) : ∀ {d : Nat} {t t' : BT α} {n : Nat}, set v d t n = some t' → ∀ m, t'.get m = if n = m then some v else t.get m
  | 0, _, _, _, h, _ => by simp [set] at h
  | d + 1, nil, t', n, h, m => by
    cases n with
    | zero =>
      simp only [set, Option.some.injEq] at h; subst h
      cases m with
      | zero => simp [get]
      | succ m => simp [get]
    | succ n =>
      simp only [set] at h
      cases hb : Nat.beq (Nat.mod n 2) 0 <;> simp only [hb, cond_true, cond_false] at h
      all_goals
        split at h
        · rename_i s hs
          simp only [Option.some.injEq] at h; subst h
          have ih := get_set v hs
          cases m with
          | zero => simp [get]
          | succ m =>
            simp only [get, Nat.add_right_cancel_iff]
            have h2 : Nat.mod n 2 < 2 := Nat.mod_lt _ (by decide)
            have h3 : Nat.mod m 2 < 2 := Nat.mod_lt _ (by decide)
            cases hc : Nat.beq (Nat.mod m 2) 0 <;> simp only [cond_true, cond_false]
            all_goals first
              | (rw [ih]
                 by_cases e : Nat.div n 2 = Nat.div m 2
                 · rw [if_pos e, if_pos]
                   refine par ?_ e
                   cases hn : Nat.mod n 2 with
                   | zero => cases hm : Nat.mod m 2 with
                     | zero => rfl
                     | succ y => rw [hn] at hb; rw [hm] at hc; simp at hb hc
                   | succ x => cases hm : Nat.mod m 2 with
                     | zero => rw [hn] at hb; rw [hm] at hc; simp at hb hc
                     | succ y => omega
                 · rw [if_neg e, if_neg (fun h => e (by rw [h]))]; try rfl)
              | (rw [if_neg]; rintro rfl; rw [hb] at hc; cases hc)
              | (rw [if_neg]; · (try rfl)
                 rintro rfl; rw [hb] at hc; cases hc)
        · cases h
  | d + 1, node u l r, t', n, h, m => by
    cases n with
    | zero =>
      simp only [set, Option.some.injEq] at h; subst h
      cases m with
      | zero => simp [get]
      | succ m => simp [get]
    | succ n =>
      simp only [set] at h
      cases hb : Nat.beq (Nat.mod n 2) 0 <;> simp only [hb, cond_true, cond_false] at h
      all_goals
        split at h
        · rename_i s hs
          simp only [Option.some.injEq] at h; subst h
          have ih := get_set v hs
          cases m with
          | zero => simp [get]
          | succ m =>
            simp only [get, Nat.add_right_cancel_iff]
            have h2 : Nat.mod n 2 < 2 := Nat.mod_lt _ (by decide)
            have h3 : Nat.mod m 2 < 2 := Nat.mod_lt _ (by decide)
            cases hc : Nat.beq (Nat.mod m 2) 0 <;> simp only [cond_true, cond_false]
            all_goals first
              | (rw [ih]
                 by_cases e : Nat.div n 2 = Nat.div m 2
                 · rw [if_pos e, if_pos]
                   refine par ?_ e
                   cases hn : Nat.mod n 2 with
                   | zero => cases hm : Nat.mod m 2 with
                     | zero => rfl
                     | succ y => rw [hn] at hb; rw [hm] at hc; simp at hb hc
                   | succ x => cases hm : Nat.mod m 2 with
                     | zero => rw [hn] at hb; rw [hm] at hc; simp at hb hc
                     | succ y => omega
                 · rw [if_neg e, if_neg (fun h => e (by rw [h]))]; try rfl)
              | (rw [if_neg]; rintro rfl; rw [hb] at hc; cases hc)
              | (rw [if_neg]; · (try rfl)
                 rintro rfl; rw [hb] at hc; cases hc)
        · cases h
end BT

/-! #### Values, brought to literals -/
section
variable {β : Type}
def forceN (m : Nat) (K : Nat → Option β) : Option β := match m with
  | 0 => K 0
  | n + 1 => K (n + 1)
theorem forceN_eq (m : Nat) (K : Nat → Option β) : forceN m K = K m := by cases m <;> rfl
def forceI (n : Int) (K : Int → Option β) : Option β := match n with
  | .ofNat m => forceN m fun m => K (.ofNat m)
  | .negSucc m => forceN m fun m => K (.negSucc m)
theorem forceI_eq (m : Int) (K : Int → Option β) : forceI m K = K m := by cases m <;> simp [forceI, forceN_eq]
def forceB (b : Bool) (K : Bool → Option β) : Option β := match b with
  | true => K true
  | false => K false
theorem forceB_eq (m : Bool) (K : Bool → Option β) : forceB m K = K m := by cases m <;> rfl
def fvE (v : AV) (K : AV → Option β) : Option β := match v with
  | .bool b => forceB b fun b => K (.bool b)
  | .int k n => forceI n fun n => K (.int k n)
  | .ptr k o => forceN k fun k => forceN o fun o => K (.ptr k o)
  | .slice k o l c e => forceN k fun k => forceN o fun o => forceN l fun l => K (.slice k o l c e)
  | .dslice cs l c => forceN l fun l => K (.dslice cs l c)
  | v => K v
theorem fvE_eq (v : AV) (K : AV → Option β) : fvE v K = K v := by cases v <;> simp [fvE, forceN_eq, forceI_eq, forceB_eq]
end

/-! #### Operations -/
def binIE (op : BinOp) (a b : Int) : Option AV := match op with
  | .add => if (-9223372036854775808 ≤ a + b ∧ a + b ≤ 9223372036854775807) then some (.int .i64 (a + b)) else none
  | .sub => if (-9223372036854775808 ≤ a - b ∧ a - b ≤ 9223372036854775807) then some (.int .i64 (a - b)) else none
  | .mul => if (-9223372036854775808 ≤ a * b ∧ a * b ≤ 9223372036854775807) then some (.int .i64 (a * b)) else none
  | .quo => if (0 ≤ a ∧ a ≤ 9223372036854775807 ∧ 0 < b) then some (.int .i64 (a / b)) else none
  | .rem => if (0 ≤ a ∧ 0 < b) then some (.int .i64 (a % b)) else none
  | .lss => some (.bool (decide (a < b)))
  | .leq => some (.bool (decide (a ≤ b)))
  | .gtr => some (.bool (decide (b < a)))
  | .geq => some (.bool (decide (b ≤ a)))
  | .eql => some (.bool (decide (a = b)))
  | .neq => some (.bool (!decide (a = b)))
  | _ => none
theorem binIE_run {op : BinOp} {a b : Int} {v : AV} {K : AV → Prop} (h : binIE op a b = some v) (hk : K v) : binI op a b K := by
  unfold binIE at h; unfold binI
  cases op <;> simp only at h ⊢ <;> first
    | (cases h; done)
    | (split at h <;> first | (cases h; done) | (rename_i hp; cases h; exact ⟨hp, hk⟩))
    | (cases h; exact hk)
def binWE (op : BinOp) (k : IntKind) (a b : Int) : Option AV := match op with
  | .add => some (.int k (k.wrap (a + b)))
  | .sub => some (.int k (k.wrap (a - b)))
  | .mul => some (.int k (k.wrap (a * b)))
  | .quo => if b ≠ 0 then some (.int k (k.wrap (a.tdiv b))) else none
  | .rem => if b ≠ 0 then some (.int k (a.tmod b)) else none
  | .and => some (.int k (k.wrap (BitVec.ofInt k.bits a &&& BitVec.ofInt k.bits b).toNat))
  | .or => some (.int k (k.wrap (BitVec.ofInt k.bits a ||| BitVec.ofInt k.bits b).toNat))
  | .xor => some (.int k (k.wrap (BitVec.ofInt k.bits a ^^^ BitVec.ofInt k.bits b).toNat))
  | .andNot => some (.int k (k.wrap (BitVec.ofInt k.bits a &&& ~~~(BitVec.ofInt k.bits b)).toNat))
  | .lss => some (.bool (decide (a < b)))
  | .leq => some (.bool (decide (a ≤ b)))
  | .gtr => some (.bool (decide (b < a)))
  | .geq => some (.bool (decide (b ≤ a)))
  | .eql => some (.bool (decide (a = b)))
  | .neq => some (.bool (!decide (a = b)))
  | _ => none
theorem binWE_run {op : BinOp} {k : IntKind} {a b : Int} {v : AV} {K : AV → Prop} (h : binWE op k a b = some v) (hk : K v) : binW op k a b K := by
  unfold binWE at h; unfold binW
  cases op <;> simp only at h ⊢ <;> first
    | (cases h; done)
    | (split at h <;> first | (cases h; done) | (rename_i hp; cases h; exact ⟨hp, hk⟩))
    | (cases h; exact hk)

def mapE (f : AX → AV) : List AX → List AV
  | [] => []
  | x :: r => f x :: mapE f r
theorem mapE_eq (f : AX → AV) : ∀ l, mapE f l = l.map f
  | [] => rfl
  | _ :: r => by simp [mapE, mapE_eq f r]
def POp.e (ev : AX → AV) : POp → Option AV
  | .mov x => some (ev x)
  | .pick c a b => match ev c with
    | .bool t => match t with
      | true => some (ev a)
      | false => some (ev b)
    | _ => none
  | .bin op x y => match ev x, ev y with
    | .int .i64 a, .int .i64 b => binIE op a b
    | .str a, .str b => match op with
      | .eql => some (.bool (decide (a = b)))
      | .neq => some (.bool (!decide (a = b)))
      | _ => none
    | _, _ => none
  | .beq neg x y => match ev x, ev y with
    | .bool a, .bool b => some (.bool (if neg then !(a == b) else a == b))
    | _, _ => none
  | .binw op x y => match ev x, ev y with
    | .int k a, .int k' b => match op with
      | .shl => if 0 ≤ b then some (.int k (k.wrap (a * 2 ^ min b.toNat k.bits))) else none
      | .shr => if 0 ≤ b then some (.int k (a.fdiv (2 ^ min b.toNat k.bits))) else none
      | op => if k = k' then binWE op k a b else none
    | _, _ => none
  | .un op x => match op, ev x with
    | .not, .bool b => some (.bool (!b))
    | .neg, .int .i64 n => if (-9223372036854775807 ≤ n ∧ n ≤ 9223372036854775807) then some (.int .i64 (-n)) else none
    | .xor, .int k n => some (.int k (k.wrap (BitVec.ofInt k.bits (if k.signed then -1 else k.max) ^^^ BitVec.ofInt k.bits n).toNat))
    | _, _ => none
  | .conv k x => match ev x with
    | .int _ n => if (k.min ≤ n ∧ n ≤ k.max) then some (.int k n) else none
    | _ => none
  | .convw k x => match ev x with
    | .int _ n => some (.int k (k.wrap n))
    | _ => none
  | .fieldA off x => match ev x with
    | .dptr cs => some (.dptr (cs.drop off))
    | .ptr k o => some (.ptr k (o + off))
    | _ => none
  | .idxA e arr x i => match ev i with
    | .int _ i => match arr, ev x with
      | some n, .dptr cs => if (0 ≤ i ∧ i < n) then some (.dptr (cs.drop (i.toNat * e))) else none
      | some n, .ptr k o => if (0 ≤ i ∧ i < n) then some (.ptr k (o + i.toNat * e)) else none
      | none, .dslice cs n _ => if (0 ≤ i ∧ i < n) then some (.dptr (cs.drop (i.toNat * e))) else none
      | none, .slice k o n _ _ => if (0 ≤ i ∧ i < n) then some (.ptr k (o + i.toNat * e)) else none
      | _, _ => none
    | _ => none
  | .len str x => match str, ev x with
    | false, .dslice _ n _ => some (.int .i64 n)
    | false, .slice _ _ n _ _ => some (.int .i64 n)
    | false, .nils => some (.int .i64 0)
    | true, .str s => some (.int .i64 s.size)
    | _, _ => none
  | .extract i x => match ev x with
    | .tuple cs => cs[i]?
    | _ => none
  | .mkfn f caps => some (.func f (mapE ev caps))
  | .nilchk x => match ev x with
    | .ptr k o => some (.ptr k o)
    | .dptr cs => some (.dptr cs)
    | .func f cs => some (.func f cs)
    | _ => none
  | .mm mx x y => match ev x, ev y with
    | .int k a, .int _ b => some (.int k (if mx then (if b > a then b else a) else (if b < a then b else a)))
    | _, _ => none
  | .other => some .any
  | .panic => none
theorem POp.e_run {ev : AX → AV} {K : AV → Prop} {o : POp} {v : AV} (h : o.e ev = some v) (hk : K v) : o.run ev K := by
  cases o <;> simp only [POp.e, POp.run, fv_eq, fvs_eq] at h ⊢
  case mov x => cases h; exact hk
  case pick c a b =>
    generalize ev c = vc at h ⊢
    cases vc <;> simp only at h ⊢
    all_goals first | (cases h; done) | skip
    rename_i t
    cases t <;> simp only at h <;> cases h
    · exact Branch.ofF rfl hk
    · exact Branch.ofT rfl hk
  case bin op x y =>
    generalize ev x = vx at h ⊢
    generalize ev y = vy at h ⊢
    split at h
    · exact binIE_run h hk
    · cases op <;> simp only at h ⊢ <;> first | (cases h; exact hk) | cases h
    · cases h
  case beq neg x y =>
    generalize ev x = vx at h ⊢
    generalize ev y = vy at h ⊢
    split at h
    · cases h; exact hk
    · cases h
  case binw op x y =>
    generalize ev x = vx at h ⊢
    generalize ev y = vy at h ⊢
    split at h
    · cases op <;> simp only at h ⊢
      all_goals (split at h <;> first | (cases h; done) | skip)
      all_goals first | (refine ⟨‹_›, ?_⟩; exact binWE_run h hk) | (cases h; exact ⟨‹_›, hk⟩)
    · cases h
  case un op x =>
    generalize ev x = vx at h ⊢
    split at h
    · cases h; exact hk
    · split at h
      · cases h; exact ⟨‹_›, hk⟩
      · cases h
    · cases h; exact hk
    · cases h
  case conv k x =>
    generalize ev x = vx at h ⊢
    split at h
    · split at h
      · cases h; exact ⟨‹_›, hk⟩
      · cases h
    · cases h
  case convw k x =>
    generalize ev x = vx at h ⊢
    split at h
    · cases h; exact hk
    · cases h
  case fieldA off x =>
    generalize ev x = vx at h ⊢
    split at h
    · cases h; exact hk
    · cases h; exact hk
    · cases h
  case idxA e arr x i =>
    generalize ev x = vx at h ⊢
    generalize ev i = vi at h ⊢
    split at h
    · split at h
      · split at h
        · cases h; exact ⟨‹_›, hk⟩
        · cases h
      · split at h
        · cases h; exact ⟨‹_›, hk⟩
        · cases h
      · split at h
        · cases h; exact ⟨‹_›, hk⟩
        · cases h
      · split at h
        · cases h; exact ⟨‹_›, hk⟩
        · cases h
      · cases h
    · cases h
  case len str x =>
    generalize ev x = vx at h ⊢
    split at h <;> first | (cases h; exact hk) | cases h
  case extract i x =>
    generalize ev x = vx at h ⊢
    split at h
    · simp only [h]; exact hk
    · cases h
  case mkfn f caps => cases h; rw [mapE_eq] at hk; exact hk
  case nilchk x =>
    generalize ev x = vx at h ⊢
    split at h <;> first | (cases h; exact hk) | cases h
  case mm mx x y =>
    generalize ev x = vx at h ⊢
    generalize ev y = vy at h ⊢
    split at h <;> first | (cases h; exact hk) | cases h
  case other => cases h; exact hk
  case panic => cases h

def takeE : Nat → List AV → Option (List AV)
  | 0, _ => some []
  | n + 1, c :: r => match takeE n r with
    | some l => some (c :: l)
    | none => none
  | _ + 1, [] => none
theorem takeE_run : ∀ {n : Nat} {cs l : List AV} {K : List AV → Prop}, takeE n cs = some l → K l → takeK n cs K
  | 0, _, _, _, h, hk => by simp only [takeE, Option.some.injEq] at h; subst h; exact hk
  | n + 1, c :: r, l, K, h, hk => by
    simp only [takeE] at h
    split at h
    · rename_i l' hl; cases h; simp only [takeK, fv_eq]; exact takeE_run hl hk
    · cases h
  | _ + 1, [], _, _, h, _ => by simp [takeE] at h
def loadE (agg : Bool) (n : Nat) (cs : List AV) : Option AV := match agg with
  | true => match takeE n cs with
    | some l => some (.agg l)
    | none => none
  | false => match cs with
    | c :: _ => some c
    | [] => none
theorem loadE_run {agg : Bool} {n : Nat} {cs : List AV} {v : AV} {K : AV → Prop} (h : loadE agg n cs = some v) (hk : K v) : loadK agg n cs K := by
  unfold loadE at h
  cases agg with
  | true =>
    simp only [loadK] at h ⊢
    split at h
    · rename_i l hl; cases h; exact takeE_run hl hk
    · cases h
  | false =>
    simp only [loadK_false] at h ⊢
    split at h
    · cases h; simp only [fv_eq]; exact hk
    · cases h
def lputE : List AV → Nat → List AV → Option (List AV)
  | cs, 0, [] => some cs
  | _ :: cs, 0, v :: l => bif scal v then (match lputE cs 0 l with
    | some r => some (v :: r)
    | none => none) else none
  | c :: cs, off + 1, l => match lputE cs off l with
    | some r => some (c :: r)
    | none => none
  | [], 0, _ :: _ => none
  | [], _ + 1, _ => none
theorem lputE_run : ∀ {cs : List AV} {off : Nat} {l r : List AV} {K : List AV → Prop}, lputE cs off l = some r → K r → lputK cs off l K
  | [], 0, [], r, K, h, hk => by simp only [lputE, Option.some.injEq] at h; subst h; simpa [lputK] using hk
  | _ :: _, 0, [], r, K, h, hk => by simp only [lputE, Option.some.injEq] at h; subst h; simpa [lputK] using hk
  | _ :: cs, 0, v :: l, r, K, h, hk => by
    simp only [lputE] at h; simp only [lputK]
    cases hv : scal v <;> simp only [hv, cond_true, cond_false] at h ⊢
    · cases h
    · split at h
      · rename_i r' hr; cases h; exact lputE_run hr hk
      · cases h
  | c :: cs, off + 1, l, r, K, h, hk => by
    simp only [lputE] at h; simp only [lputK]
    split at h
    · rename_i r' hr; cases h; exact lputE_run hr hk
    · cases h
  | [], 0, _ :: _, _, _, h, _ => by simp [lputE] at h
  | [], _ + 1, _, _, _, h, _ => by simp [lputE] at h

def eqCellsE : List Sc → List AV → List AV → Option Bool
  | [], [], [] => some true
  | k :: ks, c :: cs, d :: ds => match eqOne k c d with
    | some q => match eqCellsE ks cs ds with
      | some r => some (q && r)
      | none => none
    | none => none
  | _, _, _ => none
theorem eqCellsE_run : ∀ {ks : List Sc} {cs ds : List AV} {r : Bool} {K : Bool → Prop}, eqCellsE ks cs ds = some r → K r → eqCells ks cs ds K
  | [], [], [], r, K, h, hk => by simp only [eqCellsE, Option.some.injEq] at h; subst h; exact hk
  | k :: ks, c :: cs, d :: ds, r, K, h, hk => by
    simp only [eqCellsE] at h; simp only [eqCells]
    split at h
    · rename_i q hq
      split at h
      · rename_i r' hr; cases h; rw [hq]; exact eqCellsE_run hr hk
      · cases h
    · cases h
  | [], [], _ :: _, _, _, h, _ => by simp [eqCellsE] at h
  | [], _ :: _, _, _, _, h, _ => by simp [eqCellsE] at h
  | _ :: _, [], _, _, _, h, _ => by simp [eqCellsE] at h
  | _ :: _, _ :: _, [], _, _, h, _ => by simp [eqCellsE] at h
def buildE (ev : AX → AV) : List (Nat × Nat × AX) → List AV → Option (List AV)
  | [], cs => some cs
  | (off, sz, x) :: r, cs => match cellsOf (ev x) with
    | some l => bif Nat.beq l.length sz then (match lputE cs off l with
      | some cs => buildE ev r cs
      | none => none) else none
    | none => none
theorem buildE_run {ev : AX → AV} : ∀ {ps : List (Nat × Nat × AX)} {cs r : List AV} {K : List AV → Prop}, buildE ev ps cs = some r → K r → buildK ev ps cs K
  | [], _, _, _, h, hk => by simp only [buildE, Option.some.injEq] at h; subst h; exact hk
  | (off, sz, x) :: ps, cs, r, K, h, hk => by
    simp only [buildE] at h; simp only [buildK]
    split at h
    · rename_i l hl
      cases hb : Nat.beq l.length sz <;> simp only [hb, cond_true, cond_false] at h
      · cases h
      · split at h
        · rename_i cs' hcs; simp only [hl, hb, cond_true]; exact lputE_run hcs (buildE_run h hk)
        · cases h
    · cases h
def optE (ev : AX → AV) (d : Int) (x : Option AX) : Option Int := match x with
  | none => some d
  | some x => match ev x with
    | .int _ i => some i
    | _ => none
theorem optE_run {ev : AX → AV} {d i : Int} {x : Option AX} {K : Int → Prop} (h : optE ev d x = some i) (hk : K i) : optI ev d x K := by
  unfold optE at h; unfold optI
  split at h
  · cases h; exact hk
  · split at h
    · rename_i hx; cases h; simp only [hx]; exact hk
    · cases h

def VOp.e (ev : AX → AV) : VOp → Option AV
  | .field agg off n x => match ev x with
    | .agg cs => loadE agg n (cs.drop off)
    | _ => none
  | .idx agg e len x i => match ev x, ev i with
    | .agg cs, .int _ i => if (0 ≤ i ∧ i < len) then loadE agg e (cs.drop (i.toNat * e)) else none
    | _, _ => none
  | .sidx x i => match ev x, ev i with
    | .str s, .int _ i => if (0 ≤ i ∧ i < s.size) then some (.int .u8 ((s.data.getD i.toNat 0).toNat : Nat)) else none
    | _, _ => none
  | .build zero parts => match buildE ev parts zero with
    | some cs => some (.agg cs)
    | none => none
  | .eqa neg ks x y => match ev x, ev y with
    | .agg cs, .agg ds => match eqCellsE ks cs ds with
      | some r => some (.bool (if neg then !r else r))
      | none => none
    | _, _ => none
  | .isnil p neg x y => match p, ev x, ev y with
    | false, .nils, .nils => some (.bool (!neg))
    | false, .slice _ _ _ _ _, .nils => some (.bool neg)
    | false, .dslice _ n _, .nils => if 0 < n then some (.bool neg) else none
    | true, .nilp, .nilp => some (.bool (!neg))
    | true, .ptr _ _, .nilp => some (.bool neg)
    | true, .dptr _, .nilp => some (.bool neg)
    | _, _, _ => none
  | .sub e x lo hi mx => match ev x with
    | .dslice cs len cap => match optE ev 0 lo, optE ev len hi with
      | some l, some h => match mx with
        | none => if (0 ≤ l ∧ l ≤ h ∧ h ≤ len) then some (.dslice ((cs.drop (l.toNat * e)).take ((h - l).toNat * e)) (h - l).toNat (cap.map (· - l.toNat))) else none
        | some mx => match ev mx with
          | .int _ m => if (0 ≤ l ∧ l ≤ h ∧ h ≤ m ∧ m ≤ len) then some (.dslice ((cs.drop (l.toNat * e)).take ((h - l).toNat * e)) (h - l).toNat (some (m - l).toNat)) else none
          | _ => none
      | _, _ => none
    | .nils => match optE ev 0 lo, optE ev 0 hi with
      | some l, some h => match mx with
        | none => if (l = 0 ∧ h = 0) then some .nils else none
        | some _ => none
      | _, _ => none
    | .slice k off len cap e' => match optE ev 0 lo, optE ev len hi with
      | some l, some h => match mx with
        | none => if e = e' then (if (0 ≤ l ∧ l < h ∧ h ≤ len) then some (.slice k (off + l.toNat * e) (h - l).toNat (cap.map (· - l.toNat)) e) else if (0 ≤ l ∧ l = h ∧ h ≤ len) then some (.dslice [] 0 none) else none) else none
        | some _ => none
      | _, _ => none
    | _ => none
  | .ssub x lo hi => match ev x with
    | .str s => match optE ev 0 lo, optE ev s.size hi with
      | some l, some h => if (0 ≤ l ∧ l ≤ h ∧ h ≤ s.size) then some (.str (s.extract l.toNat h.toNat)) else none
      | _, _ => none
    | _ => none
  | .s2a n x => match ev x with
    | .dslice cs len _ => if (0 < n ∧ n ≤ len) then some (.dptr cs) else none
    | .slice k off len _ _ => if n ≤ len then some (.ptr k off) else none
    | _ => none
theorem VOp.e_run {ev : AX → AV} {K : AV → Prop} {o : VOp} {v : AV} (h : o.e ev = some v) (hk : K v) : o.run ev K := by
  cases o <;> simp only [VOp.e, VOp.run] at h ⊢
  case field agg off n x =>
    generalize hevx : ev x = vx at h ⊢
    split at h
    · exact loadE_run h hk
    · cases h
  case idx agg e len x i =>
    generalize hevx : ev x = vx at h ⊢
    generalize hevi : ev i = vi at h ⊢
    split at h
    · split at h
      · exact ⟨‹_›, loadE_run h hk⟩
      · cases h
    · cases h
  case sidx x i =>
    generalize hevx : ev x = vx at h ⊢
    generalize hevi : ev i = vi at h ⊢
    split at h
    · split at h
      · cases h; exact ⟨‹_›, hk⟩
      · cases h
    · cases h
  case build zero parts =>
    split at h
    · rename_i cs hcs; cases h; exact buildE_run hcs hk
    · cases h
  case eqa neg ks x y =>
    generalize hevx : ev x = vx at h ⊢
    generalize hevy : ev y = vy at h ⊢
    split at h
    · split at h
      · rename_i r hr; cases h; exact eqCellsE_run hr hk
      · cases h
    · cases h
  case isnil p neg x y =>
    generalize hevx : ev x = vx at h ⊢
    generalize hevy : ev y = vy at h ⊢
    split at h <;> first | (cases h; exact hk) | (split at h <;> first | (cases h; exact ⟨‹_›, hk⟩) | cases h) | cases h
  case sub e x lo hi mx =>
    generalize hevx : ev x = vx at h ⊢
    split at h
    · split at h
      · rename_i l hh h1 h2
        refine optE_run h1 (optE_run h2 ?_)
        split at h
        · split at h
          · cases h; exact ⟨‹_›, hk⟩
          · cases h
        · split at h
          · rename_i hm
            split at h
            · cases h; simp only [hm]; exact ⟨‹_›, hk⟩
            · cases h
          · cases h
      · cases h
    · split at h
      · rename_i l hh h1 h2
        refine optE_run h1 (optE_run h2 ?_)
        split at h
        · split at h
          · cases h; exact ⟨‹_›, hk⟩
          · cases h
        · cases h
      · cases h
    · split at h
      · rename_i l hh h1 h2
        refine optE_run h1 (optE_run h2 ?_)
        split at h
        · split at h
          · rename_i he
            refine ⟨he, ?_⟩
            split at h
            · cases h; exact .inl ⟨‹_›, hk⟩
            · split at h
              · cases h; exact .inr ⟨‹_›, hk⟩
              · cases h
          · cases h
        · cases h
      · cases h
    · cases h
  case ssub x lo hi =>
    generalize hevx : ev x = vx at h ⊢
    split at h
    · split at h
      · rename_i l hh h1 h2
        refine optE_run h1 (optE_run h2 ?_)
        split at h
        · cases h; exact ⟨‹_›, hk⟩
        · cases h
      · cases h
    · cases h
  case s2a n x =>
    generalize hevx : ev x = vx at h ⊢
    split at h
    · split at h
      · cases h; exact ⟨‹_›, hk⟩
      · cases h
    · split at h
      · cases h; exact ⟨‹_›, hk⟩
      · cases h
    · cases h
end Go.Eng

