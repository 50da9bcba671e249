/- Part of a proof about the given program: lemmas that the other parts use. -/
import Derived.Test.YtligaclbjnccgaaDoorRPart4
import Derived.Test.YtligaclbjnccgaaDoorRProg
import Derived.KernelRfl

set_option linter.all false
set_option linter.unusedSimpArgs false
set_option linter.unusedVariables false
set_option maxRecDepth 100000
namespace Go.Proofs
open Go Go.Eng
/-- (*simulacrum/disk.Disk).Read -/
def ac40 : AC := (.seq (.reg [⟨some 4, .h (.alloc [(.int .u8 0), (.int .u8 0), (.int .u8 0), (.int .u8 0), (.int .u8 0), (.int .u8 0), (.int .u8 0), (.int .u8 0), (.int .u8 0), (.int .u8 0), (.int .u8 0), (.int .u8 0), (.int .u8 0), (.int .u8 0), (.int .u8 0), (.int .u8 0), (.int .u8 0), (.int .u8 0), (.int .u8 0), (.int .u8 0), (.int .u8 0), (.int .u8 0), (.int .u8 0), (.int .u8 0), (.int .u8 0), (.int .u8 0), (.int .u8 0), (.int .u8 0), (.int .u8 0), (.int .u8 0), (.int .u8 0), (.int .u8 0), (.int .u8 0), (.int .u8 0), (.int .u8 0), (.int .u8 0), (.int .u8 0), (.int .u8 0), (.int .u8 0), (.int .u8 0), (.int .u8 0), (.int .u8 0), (.int .u8 0), (.int .u8 0), (.int .u8 0), (.int .u8 0), (.int .u8 0), (.int .u8 0), (.int .u8 0), (.int .u8 0), (.int .u8 0), (.int .u8 0), (.int .u8 0), (.int .u8 0), (.int .u8 0), (.int .u8 0), (.int .u8 0), (.int .u8 0), (.int .u8 0), (.int .u8 0), (.int .u8 0), (.int .u8 0), (.int .u8 0), (.int .u8 0)]), none⟩,
    ⟨some 5, .p (.mov (.c (.int .i64 0))), none⟩])
  (.seq (.seq (.reg [⟨some 8, .p (.mov (.t 0)), none⟩,
    ⟨some 9, .p (.mov (.t 1)), none⟩,
    ⟨some 10, .call 39 [(.t 8), (.t 9)], none⟩,
    ⟨some 6, .p (.mov (.t 10)), none⟩])
  (.seq (.reg [⟨some 11, .p (.mov (.t 6)), none⟩,
    ⟨some 12, .p (.bin .neq (.t 11) (.c (.int .i64 0))), none⟩])
  (.cond (.t 12) (.seq (.reg [⟨some 13, .v (.build [(.int .u8 0), (.int .u8 0), (.int .u8 0), (.int .u8 0), (.int .u8 0), (.int .u8 0), (.int .u8 0), (.int .u8 0), (.int .u8 0), (.int .u8 0), (.int .u8 0), (.int .u8 0), (.int .u8 0), (.int .u8 0), (.int .u8 0), (.int .u8 0), (.int .u8 0), (.int .u8 0), (.int .u8 0), (.int .u8 0), (.int .u8 0), (.int .u8 0), (.int .u8 0), (.int .u8 0), (.int .u8 0), (.int .u8 0), (.int .u8 0), (.int .u8 0), (.int .u8 0), (.int .u8 0), (.int .u8 0), (.int .u8 0), (.int .u8 0), (.int .u8 0), (.int .u8 0), (.int .u8 0), (.int .u8 0), (.int .u8 0), (.int .u8 0), (.int .u8 0), (.int .u8 0), (.int .u8 0), (.int .u8 0), (.int .u8 0), (.int .u8 0), (.int .u8 0), (.int .u8 0), (.int .u8 0), (.int .u8 0), (.int .u8 0), (.int .u8 0), (.int .u8 0), (.int .u8 0), (.int .u8 0), (.int .u8 0), (.int .u8 0), (.int .u8 0), (.int .u8 0), (.int .u8 0), (.int .u8 0), (.int .u8 0), (.int .u8 0), (.int .u8 0), (.int .u8 0)] []), none⟩,
    ⟨some 14, .p (.mov (.t 6)), none⟩,
    ⟨none, .h (.store 64 (.t 4) (.t 13)), none⟩,
    ⟨some 5, .p (.mov (.t 14)), none⟩])
  .ret) .skip)))
  (.seq (.seq (.reg [⟨some 15, .p (.mov (.t 0)), none⟩,
    ⟨some 16, .p (.nilchk (.t 15)), none⟩,
    ⟨some 17, .p (.fieldA 1 (.t 16)), none⟩,
    ⟨some 18, .h (.load false 1 (.t 17)), none⟩,
    ⟨some 19, .p (.mov (.t 1)), none⟩,
    ⟨some 20, .m (.get false (.c (.i .i64)) .nils (.t 18) (.t 19)), none⟩,
    ⟨some 7, .p (.mov (.t 20)), none⟩])
  (.seq (.reg [⟨some 21, .p (.mov (.t 7)), none⟩,
    ⟨some 22, .p (.len false (.t 21)), none⟩,
    ⟨some 23, .p (.bin .gtr (.t 22) (.c (.int .i64 0))), none⟩])
  (.cond (.t 23) (.seq (.reg [⟨some 24, .p (.mov (.t 7)), none⟩,
    ⟨some 25, .p (.mov (.t 7)), none⟩,
    ⟨some 26, .p (.len false (.t 25)), none⟩,
    ⟨some 27, .p (.bin .sub (.t 26) (.c (.int .i64 1))), none⟩,
    ⟨some 28, .p (.idxA 64 none (.t 24) (.t 27)), none⟩,
    ⟨some 29, .h (.load true 64 (.t 28)), none⟩,
    ⟨none, .h (.store 64 (.t 4) (.t 29)), none⟩,
    ⟨some 5, .p (.mov (.c (.int .i64 0))), none⟩])
  .ret) .skip)))
  (.seq (.seq (.reg [⟨some 30, .p (.mov (.t 0)), none⟩,
    ⟨some 31, .p (.nilchk (.t 30)), none⟩,
    ⟨some 32, .p (.fieldA 0 (.t 31)), none⟩,
    ⟨some 33, .h (.load false 1 (.t 32)), none⟩,
    ⟨some 34, .p (.mov (.t 1)), none⟩,
    ⟨some 35, .p (.idxA 65 none (.t 33) (.t 34)), none⟩,
    ⟨some 36, .p (.fieldA 64 (.t 35)), none⟩,
    ⟨some 37, .h (.load false 1 (.t 36)), none⟩])
  (.cond (.t 37) (.seq (.reg [⟨some 38, .v (.build [(.int .u8 0), (.int .u8 0), (.int .u8 0), (.int .u8 0), (.int .u8 0), (.int .u8 0), (.int .u8 0), (.int .u8 0), (.int .u8 0), (.int .u8 0), (.int .u8 0), (.int .u8 0), (.int .u8 0), (.int .u8 0), (.int .u8 0), (.int .u8 0), (.int .u8 0), (.int .u8 0), (.int .u8 0), (.int .u8 0), (.int .u8 0), (.int .u8 0), (.int .u8 0), (.int .u8 0), (.int .u8 0), (.int .u8 0), (.int .u8 0), (.int .u8 0), (.int .u8 0), (.int .u8 0), (.int .u8 0), (.int .u8 0), (.int .u8 0), (.int .u8 0), (.int .u8 0), (.int .u8 0), (.int .u8 0), (.int .u8 0), (.int .u8 0), (.int .u8 0), (.int .u8 0), (.int .u8 0), (.int .u8 0), (.int .u8 0), (.int .u8 0), (.int .u8 0), (.int .u8 0), (.int .u8 0), (.int .u8 0), (.int .u8 0), (.int .u8 0), (.int .u8 0), (.int .u8 0), (.int .u8 0), (.int .u8 0), (.int .u8 0), (.int .u8 0), (.int .u8 0), (.int .u8 0), (.int .u8 0), (.int .u8 0), (.int .u8 0), (.int .u8 0), (.int .u8 0)] []), none⟩,
    ⟨none, .h (.store 64 (.t 4) (.t 38)), none⟩,
    ⟨some 5, .p (.mov (.c (.int .i64 221))), none⟩])
  .ret) .skip))
  (.seq (.reg [⟨some 39, .p (.mov (.t 0)), none⟩,
    ⟨some 40, .p (.nilchk (.t 39)), none⟩,
    ⟨some 41, .p (.fieldA 0 (.t 40)), none⟩,
    ⟨some 42, .h (.load false 1 (.t 41)), none⟩,
    ⟨some 43, .p (.mov (.t 1)), none⟩,
    ⟨some 44, .p (.idxA 65 none (.t 42) (.t 43)), none⟩,
    ⟨some 45, .p (.fieldA 0 (.t 44)), none⟩,
    ⟨some 46, .h (.load true 64 (.t 45)), none⟩,
    ⟨none, .h (.store 64 (.t 4) (.t 46)), none⟩,
    ⟨some 5, .p (.mov (.c (.int .i64 0))), none⟩])
  .ret)))))
def rs40 : List AR := [.cell 4 true 64, .tmp 5]
theorem ok40 : okF Tryd.prog 40 47 ac40 rs40 = true := by kernel_rfl
/-- (*simulacrum/disk.Disk).Size -/
def ac42 : AC := (.seq (.reg [⟨some 2, .p (.mov (.c (.int .i64 0))), none⟩])
  (.seq (.reg [⟨some 3, .p (.mov (.t 0)), none⟩,
    ⟨some 4, .p (.nilchk (.t 3)), none⟩,
    ⟨some 5, .p (.fieldA 0 (.t 4)), none⟩,
    ⟨some 6, .h (.load false 1 (.t 5)), none⟩,
    ⟨some 7, .p (.len false (.t 6)), none⟩,
    ⟨some 2, .p (.mov (.t 7)), none⟩])
  .ret))
def rs42 : List AR := [.tmp 2]
theorem ok42 : okF Tryd.prog 42 8 ac42 rs42 = true := by kernel_rfl
/-- math/bits.Mul -/
def ac43 : AC := (.seq (.reg [⟨some 4, .p (.mov (.c (.int .u64 0))), none⟩,
    ⟨some 5, .p (.mov (.c (.int .u64 0))), none⟩])
  (.seq (.cond (.c (.bool false)) (.seq (.reg [⟨some 11, .p (.mov (.t 0)), none⟩,
    ⟨some 12, .p (.convw .u32 (.t 11)), none⟩,
    ⟨some 13, .p (.mov (.t 1)), none⟩,
    ⟨some 14, .p (.convw .u32 (.t 13)), none⟩,
    ⟨some 15, .call 49 [(.t 12), (.t 14)], none⟩,
    ⟨some 10, .p (.mov (.t 15)), none⟩,
    ⟨some 16, .p (.extract 0 (.t 10)), none⟩,
    ⟨some 17, .p (.extract 1 (.t 10)), none⟩,
    ⟨some 6, .p (.mov (.t 16)), none⟩,
    ⟨some 7, .p (.mov (.t 17)), none⟩])
  (.seq (.reg [⟨some 18, .p (.mov (.t 6)), none⟩,
    ⟨some 19, .p (.conv .u64 (.t 18)), none⟩,
    ⟨some 20, .p (.mov (.t 7)), none⟩,
    ⟨some 21, .p (.conv .u64 (.t 20)), none⟩,
    ⟨some 4, .p (.mov (.t 19)), none⟩,
    ⟨some 5, .p (.mov (.t 21)), none⟩])
  .ret)) .skip)
  (.seq (.reg [⟨some 23, .p (.mov (.t 0)), none⟩,
    ⟨some 24, .p (.mov (.t 1)), none⟩,
    ⟨some 25, .call 50 [(.t 23), (.t 24)], none⟩,
    ⟨some 22, .p (.mov (.t 25)), none⟩,
    ⟨some 26, .p (.extract 0 (.t 22)), none⟩,
    ⟨some 27, .p (.extract 1 (.t 22)), none⟩,
    ⟨some 8, .p (.mov (.t 26)), none⟩,
    ⟨some 9, .p (.mov (.t 27)), none⟩])
  (.seq (.reg [⟨some 28, .p (.mov (.t 8)), none⟩,
    ⟨some 29, .p (.mov (.t 9)), none⟩,
    ⟨some 4, .p (.mov (.t 28)), none⟩,
    ⟨some 5, .p (.mov (.t 29)), none⟩])
  .ret))))
def rs43 : List AR := [.tmp 4, .tmp 5]
theorem ok43 : okF Tryd.prog 43 30 ac43 rs43 = true := by kernel_rfl
/-- slices.Index[[]simulacrum/api.Place,simulacrum/api.Place] -/
def ac44 : AC := (.seq (.reg [⟨some 3, .h (.box (.t 1)), none⟩,
    ⟨some 4, .p (.mov (.c (.int .i64 0))), none⟩])
  (.seq (.seq (.reg [⟨some 6, .p (.mov (.t 0)), none⟩,
    ⟨some 7, .p (.len false (.t 6)), none⟩,
    ⟨some 8, .p (.mov (.c (.int .i64 0))), none⟩])
  (.block 0 (.loop (.seq (.reg [⟨some 9, .p (.bin .lss (.t 8) (.t 7)), none⟩])
  (.seq (.cond (.t 9) .skip (.exit 0))
  (.seq (.block 1 (.seq (.reg [⟨some 10, .p (.mov (.t 8)), none⟩,
    ⟨some 5, .p (.mov (.t 10)), none⟩])
  (.seq (.draw 6 [] [⟨some 11, .h (.load true 2 (.t 3)), none⟩,
    ⟨some 12, .p (.mov (.t 0)), none⟩,
    ⟨some 13, .p (.mov (.t 5)), none⟩,
    ⟨some 14, .p (.idxA 2 none (.t 12) (.t 13)), none⟩,
    ⟨some 15, .h (.load true 2 (.t 14)), none⟩,
    ⟨some 16, .v (.eqa false [(.i .i64), (.i .i64)] (.t 11) (.t 15)), none⟩])
  (.cond (.t 16) (.seq (.reg [⟨some 17, .p (.mov (.t 5)), none⟩,
    ⟨some 4, .p (.mov (.t 17)), none⟩])
  .ret) .skip))))
  (.reg [⟨some 18, .p (.bin .add (.t 8) (.c (.int .i64 1))), none⟩,
    ⟨some 8, .p (.mov (.t 18)), none⟩])))))))
  (.seq (.reg [⟨some 4, .p (.mov (.c (.int .i64 (-1)))), none⟩])
  .ret)))
def rs44 : List AR := [.tmp 4]
theorem ok44 : okF Tryd.prog 44 19 ac44 rs44 = true := by kernel_rfl
/-- simulacrum/hash.Of -/
def ac45 : AC := (.seq (.reg [⟨some 4, .h (.alloc [(.int .u8 0), (.int .u8 0), (.int .u8 0), (.int .u8 0), (.int .u8 0), (.int .u8 0), (.int .u8 0), (.int .u8 0), (.int .u8 0), (.int .u8 0), (.int .u8 0), (.int .u8 0), (.int .u8 0), (.int .u8 0), (.int .u8 0), (.int .u8 0)]), none⟩])
  (.seq (.draw 8 [(3, 5), (6, 7), (5, 7), (3, 7)] [⟨some 9, .call 51 [], none⟩,
    ⟨some 10, .p (.mov (.t 0)), none⟩,
    ⟨some 11, .p (.convw .u8 (.t 10)), none⟩,
    ⟨some 12, .d (.bslice 1 1 [(.int .u8 0)] [(0, (.t 11))]), none⟩,
    ⟨some 13, .d (.sl2s (.t 12)), none⟩,
    ⟨some 14, .call 52 [(.t 9), (.t 13)], none⟩,
    ⟨some 5, .h (.alloc [(.int .u32 0), (.int .u32 0), (.int .u32 0), (.int .u32 0), (.int .u32 0), (.int .u32 0), (.int .u32 0), (.int .u32 0), (.int .u8 0), (.int .u8 0), (.int .u8 0), (.int .u8 0), (.int .u8 0), (.int .u8 0), (.int .u8 0), (.int .u8 0), (.int .u8 0), (.int .u8 0), (.int .u8 0), (.int .u8 0), (.int .u8 0), (.int .u8 0), (.int .u8 0), (.int .u8 0), (.int .u8 0), (.int .u8 0), (.int .u8 0), (.int .u8 0), (.int .u8 0), (.int .u8 0), (.int .u8 0), (.int .u8 0), (.int .u8 0), (.int .u8 0), (.int .u8 0), (.int .u8 0), (.int .u8 0), (.int .u8 0), (.int .u8 0), (.int .u8 0), (.int .u8 0), (.int .u8 0), (.int .u8 0), (.int .u8 0), (.int .u8 0), (.int .u8 0), (.int .u8 0), (.int .u8 0), (.int .u8 0), (.int .u8 0), (.int .u8 0), (.int .u8 0), (.int .u8 0), (.int .u8 0), (.int .u8 0), (.int .u8 0), (.int .u8 0), (.int .u8 0), (.int .u8 0), (.int .u8 0), (.int .u8 0), (.int .u8 0), (.int .u8 0), (.int .u8 0), (.int .u8 0), (.int .u8 0), (.int .u8 0), (.int .u8 0), (.int .u8 0), (.int .u8 0), (.int .u8 0), (.int .u8 0), (.int .u64 0)]), none⟩,
    ⟨none, .h (.store 73 (.t 5) (.t 14)), none⟩])
  (.seq (.seq (.reg [⟨some 15, .p (.mov (.t 1)), none⟩,
    ⟨some 16, .p (.len false (.t 15)), none⟩,
    ⟨some 17, .p (.mov (.c (.int .i64 0))), none⟩])
  (.block 0 (.loop (.seq (.reg [⟨some 18, .p (.bin .lss (.t 17) (.t 16)), none⟩])
  (.seq (.cond (.t 18) .skip (.exit 0))
  (.seq (.block 1 (.seq (.reg [⟨some 19, .p (.idxA 1 none (.t 15) (.t 17)), none⟩,
    ⟨some 20, .h (.load false 1 (.t 19)), none⟩,
    ⟨some 7, .p (.mov (.t 20)), none⟩])
  (.draw 6 [(4, 5), (0, 5), (2, 5)] [⟨some 21, .h (.load true 73 (.t 5)), none⟩,
    ⟨some 22, .p (.mov (.t 7)), none⟩,
    ⟨some 23, .call 53 [(.t 22)], none⟩,
    ⟨some 24, .d (.sl2s (.t 23)), none⟩,
    ⟨some 25, .call 52 [(.t 21), (.t 24)], none⟩,
    ⟨none, .h (.store 73 (.t 5) (.t 25)), none⟩])))
  (.reg [⟨some 26, .p (.bin .add (.t 17) (.c (.int .i64 1))), none⟩,
    ⟨some 17, .p (.mov (.t 26)), none⟩])))))))
  (.seq (.reg [⟨some 27, .h (.load true 73 (.t 5)), none⟩,
    ⟨some 28, .call 54 [(.t 27)], none⟩,
    ⟨some 8, .h (.alloc [(.int .u8 0), (.int .u8 0), (.int .u8 0), (.int .u8 0), (.int .u8 0), (.int .u8 0), (.int .u8 0), (.int .u8 0), (.int .u8 0), (.int .u8 0), (.int .u8 0), (.int .u8 0), (.int .u8 0), (.int .u8 0), (.int .u8 0), (.int .u8 0), (.int .u8 0), (.int .u8 0), (.int .u8 0), (.int .u8 0), (.int .u8 0), (.int .u8 0), (.int .u8 0), (.int .u8 0), (.int .u8 0), (.int .u8 0), (.int .u8 0), (.int .u8 0), (.int .u8 0), (.int .u8 0), (.int .u8 0), (.int .u8 0)]), none⟩,
    ⟨none, .h (.store 32 (.t 8) (.t 28)), none⟩])
  (.seq (.reg [⟨some 29, .d (.asub 1 32 (.t 8) none (some (.c (.int .i64 16)))), none⟩,
    ⟨some 30, .v (.s2a 16 (.t 29)), none⟩,
    ⟨some 31, .h (.load true 16 (.t 30)), none⟩,
    ⟨none, .h (.store 16 (.t 4) (.t 31)), none⟩])
  .ret)))))
def rs45 : List AR := [.cell 4 true 16]
theorem ok45 : okF Tryd.prog 45 32 ac45 rs45 = true := by kernel_rfl
/-- (*simulacrum/disk.Disk).step -/
def ac46 : AC := (.seq (.reg [⟨some 2, .p (.mov (.c (.int .i64 0))), none⟩])
  (.seq (.block 0 (.seq (.reg [⟨some 4, .p (.mov (.t 0)), none⟩,
    ⟨some 5, .p (.nilchk (.t 4)), none⟩,
    ⟨some 6, .p (.fieldA 3 (.t 5)), none⟩,
    ⟨some 7, .h (.load false 1 (.t 6)), none⟩,
    ⟨some 8, .p (.bin .eql (.t 7) (.c (.int .i64 0))), none⟩,
    ⟨some 3, .p (.mov (.t 8)), none⟩])
  (.cond (.t 3) (.seq (.reg [⟨some 9, .p (.mov (.t 0)), none⟩,
    ⟨some 10, .p (.nilchk (.t 9)), none⟩,
    ⟨some 11, .p (.fieldA 4 (.t 10)), none⟩,
    ⟨none, .h (.store 1 (.t 11) (.c (.bool true))), none⟩])
  (.seq (.reg [⟨some 2, .p (.mov (.c (.int .i64 12))), none⟩])
  .ret)) (.seq (.reg [⟨some 13, .p (.mov (.t 0)), none⟩,
    ⟨some 14, .p (.nilchk (.t 13)), none⟩,
    ⟨some 15, .p (.fieldA 3 (.t 14)), none⟩,
    ⟨some 16, .h (.load false 1 (.t 15)), none⟩,
    ⟨some 17, .p (.bin .gtr (.t 16) (.c (.int .i64 0))), none⟩,
    ⟨some 12, .p (.mov (.t 17)), none⟩])
  (.cond (.t 12) (.reg [⟨some 18, .p (.mov (.t 0)), none⟩,
    ⟨some 19, .p (.nilchk (.t 18)), none⟩,
    ⟨some 20, .p (.fieldA 3 (.t 19)), none⟩,
    ⟨some 21, .h (.load false 1 (.t 20)), none⟩,
    ⟨some 22, .p (.bin .sub (.t 21) (.c (.int .i64 1))), none⟩,
    ⟨some 23, .p (.nilchk (.t 18)), none⟩,
    ⟨some 24, .p (.fieldA 3 (.t 23)), none⟩,
    ⟨none, .h (.store 1 (.t 24) (.t 22)), none⟩]) .skip)))))
  (.seq (.reg [⟨some 25, .p (.mov (.t 0)), none⟩,
    ⟨some 26, .p (.nilchk (.t 25)), none⟩,
    ⟨some 27, .p (.fieldA 2 (.t 26)), none⟩,
    ⟨some 28, .h (.load false 1 (.t 27)), none⟩,
    ⟨some 29, .p (.bin .add (.t 28) (.c (.int .i64 1))), none⟩,
    ⟨some 30, .p (.nilchk (.t 25)), none⟩,
    ⟨some 31, .p (.fieldA 2 (.t 30)), none⟩,
    ⟨none, .h (.store 1 (.t 31) (.t 29)), none⟩])
  (.seq (.reg [⟨some 2, .p (.mov (.c (.int .i64 0))), none⟩])
  .ret))))
def rs46 : List AR := [.tmp 2]
theorem ok46 : okF Tryd.prog 46 32 ac46 rs46 = true := by kernel_rfl
/-- math/bits.Mul32 -/
def ac49 : AC := (.seq (.reg [⟨some 4, .p (.mov (.c (.int .u32 0))), none⟩,
    ⟨some 5, .p (.mov (.c (.int .u32 0))), none⟩])
  (.seq (.reg [⟨some 7, .p (.mov (.t 0)), none⟩,
    ⟨some 8, .p (.conv .u64 (.t 7)), none⟩,
    ⟨some 9, .p (.mov (.t 1)), none⟩,
    ⟨some 10, .p (.conv .u64 (.t 9)), none⟩,
    ⟨some 11, .p (.binw .mul (.t 8) (.t 10)), none⟩,
    ⟨some 6, .p (.mov (.t 11)), none⟩])
  (.seq (.reg [⟨some 12, .p (.mov (.t 6)), none⟩,
    ⟨some 13, .p (.binw .shr (.t 12) (.c (.int .u64 32))), none⟩,
    ⟨some 14, .p (.convw .u32 (.t 13)), none⟩,
    ⟨some 15, .p (.mov (.t 6)), none⟩,
    ⟨some 16, .p (.convw .u32 (.t 15)), none⟩,
    ⟨some 4, .p (.mov (.t 14)), none⟩,
    ⟨some 5, .p (.mov (.t 16)), none⟩])
  .ret)))
def rs49 : List AR := [.tmp 4, .tmp 5]
theorem ok49 : okF Tryd.prog 49 17 ac49 rs49 = true := by kernel_rfl
/-- math/bits.Mul64 -/
def ac50 : AC := (.seq (.reg [⟨some 4, .p (.mov (.c (.int .u64 0))), none⟩,
    ⟨some 5, .p (.mov (.c (.int .u64 0))), none⟩])
  (.seq (.reg [⟨some 14, .p (.mov (.t 0)), none⟩,
    ⟨some 15, .p (.binw .and (.t 14) (.c (.int .u64 4294967295))), none⟩,
    ⟨some 6, .p (.mov (.t 15)), none⟩])
  (.seq (.reg [⟨some 16, .p (.mov (.t 0)), none⟩,
    ⟨some 17, .p (.binw .shr (.t 16) (.c (.int .u64 32))), none⟩,
    ⟨some 7, .p (.mov (.t 17)), none⟩])
  (.seq (.reg [⟨some 18, .p (.mov (.t 1)), none⟩,
    ⟨some 19, .p (.binw .and (.t 18) (.c (.int .u64 4294967295))), none⟩,
    ⟨some 8, .p (.mov (.t 19)), none⟩])
  (.seq (.reg [⟨some 20, .p (.mov (.t 1)), none⟩,
    ⟨some 21, .p (.binw .shr (.t 20) (.c (.int .u64 32))), none⟩,
    ⟨some 9, .p (.mov (.t 21)), none⟩])
  (.seq (.reg [⟨some 22, .p (.mov (.t 6)), none⟩,
    ⟨some 23, .p (.mov (.t 8)), none⟩,
    ⟨some 24, .p (.binw .mul (.t 22) (.t 23)), none⟩,
    ⟨some 10, .p (.mov (.t 24)), none⟩])
  (.seq (.reg [⟨some 25, .p (.mov (.t 7)), none⟩,
    ⟨some 26, .p (.mov (.t 8)), none⟩,
    ⟨some 27, .p (.binw .mul (.t 25) (.t 26)), none⟩,
    ⟨some 28, .p (.mov (.t 10)), none⟩,
    ⟨some 29, .p (.binw .shr (.t 28) (.c (.int .u64 32))), none⟩,
    ⟨some 30, .p (.binw .add (.t 27) (.t 29)), none⟩,
    ⟨some 11, .p (.mov (.t 30)), none⟩])
  (.seq (.reg [⟨some 31, .p (.mov (.t 11)), none⟩,
    ⟨some 32, .p (.binw .and (.t 31) (.c (.int .u64 4294967295))), none⟩,
    ⟨some 12, .p (.mov (.t 32)), none⟩])
  (.seq (.reg [⟨some 33, .p (.mov (.t 11)), none⟩,
    ⟨some 34, .p (.binw .shr (.t 33) (.c (.int .u64 32))), none⟩,
    ⟨some 13, .p (.mov (.t 34)), none⟩])
  (.seq (.reg [⟨some 35, .p (.mov (.t 12)), none⟩,
    ⟨some 36, .p (.mov (.t 6)), none⟩,
    ⟨some 37, .p (.mov (.t 9)), none⟩,
    ⟨some 38, .p (.binw .mul (.t 36) (.t 37)), none⟩,
    ⟨some 39, .p (.binw .add (.t 35) (.t 38)), none⟩,
    ⟨some 12, .p (.mov (.t 39)), none⟩])
  (.seq (.reg [⟨some 40, .p (.mov (.t 7)), none⟩,
    ⟨some 41, .p (.mov (.t 9)), none⟩,
    ⟨some 42, .p (.binw .mul (.t 40) (.t 41)), none⟩,
    ⟨some 43, .p (.mov (.t 13)), none⟩,
    ⟨some 44, .p (.binw .add (.t 42) (.t 43)), none⟩,
    ⟨some 45, .p (.mov (.t 12)), none⟩,
    ⟨some 46, .p (.binw .shr (.t 45) (.c (.int .u64 32))), none⟩,
    ⟨some 47, .p (.binw .add (.t 44) (.t 46)), none⟩,
    ⟨some 4, .p (.mov (.t 47)), none⟩])
  (.seq (.reg [⟨some 48, .p (.mov (.t 0)), none⟩,
    ⟨some 49, .p (.mov (.t 1)), none⟩,
    ⟨some 50, .p (.binw .mul (.t 48) (.t 49)), none⟩,
    ⟨some 5, .p (.mov (.t 50)), none⟩])
  .ret))))))))))))
def rs50 : List AR := [.tmp 4, .tmp 5]
theorem ok50 : okF Tryd.prog 50 51 ac50 rs50 = true := by kernel_rfl
/-- simulacrum/hash.Begin -/
def ac51 : AC := (.seq (.reg [⟨some 0, .h (.alloc [(.int .u32 0), (.int .u32 0), (.int .u32 0), (.int .u32 0), (.int .u32 0), (.int .u32 0), (.int .u32 0), (.int .u32 0), (.int .u8 0), (.int .u8 0), (.int .u8 0), (.int .u8 0), (.int .u8 0), (.int .u8 0), (.int .u8 0), (.int .u8 0), (.int .u8 0), (.int .u8 0), (.int .u8 0), (.int .u8 0), (.int .u8 0), (.int .u8 0), (.int .u8 0), (.int .u8 0), (.int .u8 0), (.int .u8 0), (.int .u8 0), (.int .u8 0), (.int .u8 0), (.int .u8 0), (.int .u8 0), (.int .u8 0), (.int .u8 0), (.int .u8 0), (.int .u8 0), (.int .u8 0), (.int .u8 0), (.int .u8 0), (.int .u8 0), (.int .u8 0), (.int .u8 0), (.int .u8 0), (.int .u8 0), (.int .u8 0), (.int .u8 0), (.int .u8 0), (.int .u8 0), (.int .u8 0), (.int .u8 0), (.int .u8 0), (.int .u8 0), (.int .u8 0), (.int .u8 0), (.int .u8 0), (.int .u8 0), (.int .u8 0), (.int .u8 0), (.int .u8 0), (.int .u8 0), (.int .u8 0), (.int .u8 0), (.int .u8 0), (.int .u8 0), (.int .u8 0), (.int .u8 0), (.int .u8 0), (.int .u8 0), (.int .u8 0), (.int .u8 0), (.int .u8 0), (.int .u8 0), (.int .u8 0), (.int .u64 0)]), none⟩])
  (.seq (.reg [⟨some 1, .v (.build [(.int .u32 0), (.int .u32 0), (.int .u32 0), (.int .u32 0), (.int .u32 0), (.int .u32 0), (.int .u32 0), (.int .u32 0)] [(0, 1, (.c (.int .u32 1779033703))), (1, 1, (.c (.int .u32 3144134277))), (2, 1, (.c (.int .u32 1013904242))), (3, 1, (.c (.int .u32 2773480762))), (4, 1, (.c (.int .u32 1359893119))), (5, 1, (.c (.int .u32 2600822924))), (6, 1, (.c (.int .u32 528734635))), (7, 1, (.c (.int .u32 1541459225)))]), none⟩,
    ⟨some 2, .v (.build [(.int .u32 0), (.int .u32 0), (.int .u32 0), (.int .u32 0), (.int .u32 0), (.int .u32 0), (.int .u32 0), (.int .u32 0), (.int .u8 0), (.int .u8 0), (.int .u8 0), (.int .u8 0), (.int .u8 0), (.int .u8 0), (.int .u8 0), (.int .u8 0), (.int .u8 0), (.int .u8 0), (.int .u8 0), (.int .u8 0), (.int .u8 0), (.int .u8 0), (.int .u8 0), (.int .u8 0), (.int .u8 0), (.int .u8 0), (.int .u8 0), (.int .u8 0), (.int .u8 0), (.int .u8 0), (.int .u8 0), (.int .u8 0), (.int .u8 0), (.int .u8 0), (.int .u8 0), (.int .u8 0), (.int .u8 0), (.int .u8 0), (.int .u8 0), (.int .u8 0), (.int .u8 0), (.int .u8 0), (.int .u8 0), (.int .u8 0), (.int .u8 0), (.int .u8 0), (.int .u8 0), (.int .u8 0), (.int .u8 0), (.int .u8 0), (.int .u8 0), (.int .u8 0), (.int .u8 0), (.int .u8 0), (.int .u8 0), (.int .u8 0), (.int .u8 0), (.int .u8 0), (.int .u8 0), (.int .u8 0), (.int .u8 0), (.int .u8 0), (.int .u8 0), (.int .u8 0), (.int .u8 0), (.int .u8 0), (.int .u8 0), (.int .u8 0), (.int .u8 0), (.int .u8 0), (.int .u8 0), (.int .u8 0), (.int .u64 0)] [(0, 8, (.t 1))]), none⟩,
    ⟨none, .h (.store 73 (.t 0) (.t 2)), none⟩])
  .ret))
def rs51 : List AR := [.cell 0 true 73]
theorem ok51 : okF Tryd.prog 51 3 ac51 rs51 = true := by kernel_rfl
/-- (simulacrum/hash.Stream).Add -/
def ac52 : AC := (.seq (.reg [⟨some 2, .h (.box (.t 0)), none⟩,
    ⟨some 4, .h (.alloc [(.int .u32 0), (.int .u32 0), (.int .u32 0), (.int .u32 0), (.int .u32 0), (.int .u32 0), (.int .u32 0), (.int .u32 0), (.int .u8 0), (.int .u8 0), (.int .u8 0), (.int .u8 0), (.int .u8 0), (.int .u8 0), (.int .u8 0), (.int .u8 0), (.int .u8 0), (.int .u8 0), (.int .u8 0), (.int .u8 0), (.int .u8 0), (.int .u8 0), (.int .u8 0), (.int .u8 0), (.int .u8 0), (.int .u8 0), (.int .u8 0), (.int .u8 0), (.int .u8 0), (.int .u8 0), (.int .u8 0), (.int .u8 0), (.int .u8 0), (.int .u8 0), (.int .u8 0), (.int .u8 0), (.int .u8 0), (.int .u8 0), (.int .u8 0), (.int .u8 0), (.int .u8 0), (.int .u8 0), (.int .u8 0), (.int .u8 0), (.int .u8 0), (.int .u8 0), (.int .u8 0), (.int .u8 0), (.int .u8 0), (.int .u8 0), (.int .u8 0), (.int .u8 0), (.int .u8 0), (.int .u8 0), (.int .u8 0), (.int .u8 0), (.int .u8 0), (.int .u8 0), (.int .u8 0), (.int .u8 0), (.int .u8 0), (.int .u8 0), (.int .u8 0), (.int .u8 0), (.int .u8 0), (.int .u8 0), (.int .u8 0), (.int .u8 0), (.int .u8 0), (.int .u8 0), (.int .u8 0), (.int .u8 0), (.int .u64 0)]), none⟩])
  (.seq (.block 0 (.loop (.seq (.seq (.reg [⟨some 7, .p (.mov (.t 1)), none⟩,
    ⟨some 8, .p (.bin .neq (.t 7) (.c (.str ⟨#[]⟩))), none⟩])
  (.cond (.t 8) .skip (.exit 0)))
  (.block 1 (.seq (.reg [⟨some 9, .p (.fieldA 72 (.t 2)), none⟩,
    ⟨some 10, .h (.load false 1 (.t 9)), none⟩,
    ⟨some 11, .p (.binw .rem (.t 10) (.c (.int .u64 64))), none⟩,
    ⟨some 12, .p (.convw .i64 (.t 11)), none⟩,
    ⟨some 5, .p (.mov (.t 12)), none⟩])
  (.seq (.reg [⟨some 13, .p (.fieldA 8 (.t 2)), none⟩,
    ⟨some 14, .p (.mov (.t 5)), none⟩,
    ⟨some 15, .d (.asub 1 64 (.t 13) (some (.t 14)) none), none⟩,
    ⟨some 16, .p (.mov (.t 1)), none⟩,
    ⟨some 17, .m (.copyS (.t 15) (.t 16)), none⟩,
    ⟨some 6, .p (.mov (.t 17)), none⟩])
  (.seq (.reg [⟨some 18, .p (.mov (.t 1)), none⟩,
    ⟨some 19, .p (.mov (.t 6)), none⟩,
    ⟨some 20, .v (.ssub (.t 18) (some (.t 19)) none), none⟩,
    ⟨some 1, .p (.mov (.t 20)), none⟩])
  (.seq (.reg [⟨some 21, .p (.fieldA 72 (.t 2)), none⟩,
    ⟨some 22, .h (.load false 1 (.t 21)), none⟩,
    ⟨some 23, .p (.mov (.t 6)), none⟩,
    ⟨some 24, .p (.convw .u64 (.t 23)), none⟩,
    ⟨some 25, .p (.binw .add (.t 22) (.t 24)), none⟩,
    ⟨some 26, .p (.fieldA 72 (.t 2)), none⟩,
    ⟨none, .h (.store 1 (.t 26) (.t 25)), none⟩])
  (.seq (.reg [⟨some 27, .p (.mov (.t 5)), none⟩,
    ⟨some 28, .p (.mov (.t 6)), none⟩,
    ⟨some 29, .p (.bin .add (.t 27) (.t 28)), none⟩,
    ⟨some 30, .p (.bin .eql (.t 29) (.c (.int .i64 64))), none⟩])
  (.cond (.t 30) (.draw 7 [(4, 6), (1, 6), (3, 6)] [⟨some 31, .p (.fieldA 0 (.t 2)), none⟩,
    ⟨some 32, .h (.load true 8 (.t 31)), none⟩,
    ⟨some 33, .p (.fieldA 8 (.t 2)), none⟩,
    ⟨some 34, .d (.asub 1 64 (.t 33) none none), none⟩,
    ⟨some 35, .call 57 [(.t 32), (.t 34)], none⟩,
    ⟨some 36, .p (.fieldA 0 (.t 2)), none⟩,
    ⟨none, .h (.store 8 (.t 36) (.t 35)), none⟩]) .skip))))))))))
  (.seq (.reg [⟨some 37, .h (.load true 73 (.t 2)), none⟩,
    ⟨none, .h (.store 73 (.t 4) (.t 37)), none⟩])
  .ret)))
def rs52 : List AR := [.cell 4 true 73]
theorem ok52 : okF Tryd.prog 52 38 ac52 rs52 = true := by kernel_rfl
/-- simulacrum/wire.Bytes -/
def ac53 : AC := (.seq (.reg [⟨some 2, .p (.mov (.c .nils)), none⟩])
  (.seq (.reg [⟨some 3, .p (.mov (.t 0)), none⟩,
    ⟨some 4, .p (.len true (.t 3)), none⟩,
    ⟨some 5, .call 58 [(.t 4)], none⟩,
    ⟨some 6, .p (.mov (.t 0)), none⟩,
    ⟨some 7, .l (.appendS 1 (.t 5) (.t 6)), none⟩,
    ⟨some 2, .p (.mov (.t 7)), none⟩])
  .ret))
def rs53 : List AR := [.tmp 2]
theorem ok53 : okF Tryd.prog 53 8 ac53 rs53 = true := by kernel_rfl
/-- (simulacrum/hash.Stream).Sum -/
def ac54 : AC := (.seq (.reg [⟨some 1, .h (.box (.t 0)), none⟩,
    ⟨some 2, .h (.alloc [(.int .u8 0), (.int .u8 0), (.int .u8 0), (.int .u8 0), (.int .u8 0), (.int .u8 0), (.int .u8 0), (.int .u8 0), (.int .u8 0), (.int .u8 0), (.int .u8 0), (.int .u8 0), (.int .u8 0), (.int .u8 0), (.int .u8 0), (.int .u8 0), (.int .u8 0), (.int .u8 0), (.int .u8 0), (.int .u8 0), (.int .u8 0), (.int .u8 0), (.int .u8 0), (.int .u8 0), (.int .u8 0), (.int .u8 0), (.int .u8 0), (.int .u8 0), (.int .u8 0), (.int .u8 0), (.int .u8 0), (.int .u8 0)]), none⟩])
  (.seq (.reg [⟨some 8, .p (.fieldA 72 (.t 1)), none⟩,
    ⟨some 9, .h (.load false 1 (.t 8)), none⟩,
    ⟨some 10, .p (.binw .mul (.c (.int .u64 8)) (.t 9)), none⟩,
    ⟨some 3, .p (.mov (.t 10)), none⟩])
  (.seq (.reg [⟨some 11, .d (.bslice 1 1 [(.int .u8 0)] [(0, (.c (.int .u8 128)))]), none⟩,
    ⟨some 4, .p (.mov (.t 11)), none⟩])
  (.seq (.block 0 (.loop (.seq (.seq (.reg [⟨some 12, .p (.fieldA 72 (.t 1)), none⟩,
    ⟨some 13, .h (.load false 1 (.t 12)), none⟩,
    ⟨some 14, .p (.convw .i64 (.t 13)), none⟩,
    ⟨some 15, .p (.mov (.t 4)), none⟩,
    ⟨some 16, .p (.len false (.t 15)), none⟩,
    ⟨some 17, .p (.bin .add (.t 14) (.t 16)), none⟩,
    ⟨some 18, .p (.bin .rem (.t 17) (.c (.int .i64 64))), none⟩,
    ⟨some 19, .p (.bin .neq (.t 18) (.c (.int .i64 56))), none⟩])
  (.cond (.t 19) .skip (.exit 0)))
  (.block 1 (.reg [⟨some 20, .p (.mov (.t 4)), none⟩,
    ⟨some 21, .d (.bslice 1 1 [(.int .u8 0)] [(0, (.c (.int .u8 0)))]), none⟩,
    ⟨some 22, .l (.append 1 1 (.t 20) (.t 21)), none⟩,
    ⟨some 4, .p (.mov (.t 22)), none⟩])))))
  (.seq (.seq (.reg [⟨some 23, .p (.mov (.c (.int .i64 0))), none⟩])
  (.block 2 (.loop (.seq (.reg [⟨some 24, .p (.bin .lss (.t 23) (.c (.int .i64 8))), none⟩])
  (.seq (.cond (.t 24) .skip (.exit 2))
  (.seq (.block 3 (.seq (.reg [⟨some 25, .p (.mov (.t 23)), none⟩,
    ⟨some 5, .p (.mov (.t 25)), none⟩])
  (.reg [⟨some 26, .p (.mov (.t 4)), none⟩,
    ⟨some 27, .p (.mov (.t 3)), none⟩,
    ⟨some 28, .p (.mov (.t 5)), none⟩,
    ⟨some 29, .p (.bin .mul (.c (.int .i64 8)) (.t 28)), none⟩,
    ⟨some 30, .p (.bin .sub (.c (.int .i64 56)) (.t 29)), none⟩,
    ⟨some 31, .p (.binw .shr (.t 27) (.t 30)), none⟩,
    ⟨some 32, .p (.convw .u8 (.t 31)), none⟩,
    ⟨some 33, .d (.bslice 1 1 [(.int .u8 0)] [(0, (.t 32))]), none⟩,
    ⟨some 34, .l (.append 1 1 (.t 26) (.t 33)), none⟩,
    ⟨some 4, .p (.mov (.t 34)), none⟩])))
  (.reg [⟨some 35, .p (.bin .add (.t 23) (.c (.int .i64 1))), none⟩,
    ⟨some 23, .p (.mov (.t 35)), none⟩])))))))
  (.seq (.reg [⟨some 36, .h (.load true 73 (.t 1)), none⟩,
    ⟨some 37, .p (.mov (.t 4)), none⟩,
    ⟨some 38, .d (.sl2s (.t 37)), none⟩,
    ⟨some 39, .call 52 [(.t 36), (.t 38)], none⟩,
    ⟨none, .h (.store 73 (.t 1) (.t 39)), none⟩])
  (.seq (.reg [⟨some 6, .h (.alloc [(.int .u8 0), (.int .u8 0), (.int .u8 0), (.int .u8 0), (.int .u8 0), (.int .u8 0), (.int .u8 0), (.int .u8 0), (.int .u8 0), (.int .u8 0), (.int .u8 0), (.int .u8 0), (.int .u8 0), (.int .u8 0), (.int .u8 0), (.int .u8 0), (.int .u8 0), (.int .u8 0), (.int .u8 0), (.int .u8 0), (.int .u8 0), (.int .u8 0), (.int .u8 0), (.int .u8 0), (.int .u8 0), (.int .u8 0), (.int .u8 0), (.int .u8 0), (.int .u8 0), (.int .u8 0), (.int .u8 0), (.int .u8 0)]), none⟩])
  (.seq (.seq (.reg [⟨some 40, .p (.mov (.c (.int .i64 0))), none⟩])
  (.block 4 (.loop (.seq (.reg [⟨some 41, .p (.bin .lss (.t 40) (.c (.int .i64 32))), none⟩])
  (.seq (.cond (.t 41) .skip (.exit 4))
  (.seq (.block 5 (.seq (.reg [⟨some 42, .p (.mov (.t 40)), none⟩,
    ⟨some 7, .p (.mov (.t 42)), none⟩])
  (.reg [⟨some 43, .p (.mov (.t 7)), none⟩,
    ⟨some 44, .p (.mov (.t 7)), none⟩,
    ⟨some 45, .p (.bin .quo (.t 44) (.c (.int .i64 4))), none⟩,
    ⟨some 46, .p (.fieldA 0 (.t 1)), none⟩,
    ⟨some 47, .p (.idxA 1 (some 8) (.t 46) (.t 45)), none⟩,
    ⟨some 48, .h (.load false 1 (.t 47)), none⟩,
    ⟨some 49, .p (.mov (.t 7)), none⟩,
    ⟨some 50, .p (.bin .rem (.t 49) (.c (.int .i64 4))), none⟩,
    ⟨some 51, .p (.bin .mul (.c (.int .i64 8)) (.t 50)), none⟩,
    ⟨some 52, .p (.bin .sub (.c (.int .i64 24)) (.t 51)), none⟩,
    ⟨some 53, .p (.binw .shr (.t 48) (.t 52)), none⟩,
    ⟨some 54, .p (.convw .u8 (.t 53)), none⟩,
    ⟨some 55, .p (.idxA 1 (some 32) (.t 6) (.t 43)), none⟩,
    ⟨none, .h (.store 1 (.t 55) (.t 54)), none⟩])))
  (.reg [⟨some 56, .p (.bin .add (.t 40) (.c (.int .i64 1))), none⟩,
    ⟨some 40, .p (.mov (.t 56)), none⟩])))))))
  (.seq (.reg [⟨some 57, .h (.load true 32 (.t 6)), none⟩,
    ⟨none, .h (.store 32 (.t 2) (.t 57)), none⟩])
  .ret)))))))))
def rs54 : List AR := [.cell 2 true 32]
theorem ok54 : okF Tryd.prog 54 58 ac54 rs54 = true := by kernel_rfl
/-- simulacrum/hash.compress -/
def ac57 : AC := (.seq (.reg [⟨some 2, .h (.box (.t 0)), none⟩,
    ⟨some 4, .h (.alloc [(.int .u32 0), (.int .u32 0), (.int .u32 0), (.int .u32 0), (.int .u32 0), (.int .u32 0), (.int .u32 0), (.int .u32 0)]), none⟩])
  (.seq (.reg [⟨some 13, .p (.mov (.t 1)), none⟩,
    ⟨some 14, .call 63 [(.t 13)], none⟩,
    ⟨some 5, .h (.alloc [(.int .u32 0), (.int .u32 0), (.int .u32 0), (.int .u32 0), (.int .u32 0), (.int .u32 0), (.int .u32 0), (.int .u32 0), (.int .u32 0), (.int .u32 0), (.int .u32 0), (.int .u32 0), (.int .u32 0), (.int .u32 0), (.int .u32 0), (.int .u32 0), (.int .u32 0), (.int .u32 0), (.int .u32 0), (.int .u32 0), (.int .u32 0), (.int .u32 0), (.int .u32 0), (.int .u32 0), (.int .u32 0), (.int .u32 0), (.int .u32 0), (.int .u32 0), (.int .u32 0), (.int .u32 0), (.int .u32 0), (.int .u32 0), (.int .u32 0), (.int .u32 0), (.int .u32 0), (.int .u32 0), (.int .u32 0), (.int .u32 0), (.int .u32 0), (.int .u32 0), (.int .u32 0), (.int .u32 0), (.int .u32 0), (.int .u32 0), (.int .u32 0), (.int .u32 0), (.int .u32 0), (.int .u32 0), (.int .u32 0), (.int .u32 0), (.int .u32 0), (.int .u32 0), (.int .u32 0), (.int .u32 0), (.int .u32 0), (.int .u32 0), (.int .u32 0), (.int .u32 0), (.int .u32 0), (.int .u32 0), (.int .u32 0), (.int .u32 0), (.int .u32 0), (.int .u32 0)]), none⟩,
    ⟨none, .h (.store 64 (.t 5) (.t 14)), none⟩])
  (.seq (.draw 10 [(6, 8), (2, 8), (0, 8), (7, 8), (7, 9), (5, 9), (8, 9), (0, 9), (2, 9), (3, 9), (6, 9)] [⟨some 15, .d (.asub 1 8 (.t 2) none (some (.c (.int .i64 4)))), none⟩,
    ⟨some 16, .v (.s2a 4 (.t 15)), none⟩,
    ⟨some 17, .h (.load true 4 (.t 16)), none⟩,
    ⟨some 18, .d (.asub 1 8 (.t 2) (some (.c (.int .i64 4))) none), none⟩,
    ⟨some 19, .v (.s2a 4 (.t 18)), none⟩,
    ⟨some 20, .h (.load true 4 (.t 19)), none⟩,
    ⟨some 6, .h (.alloc [(.int .u32 0), (.int .u32 0), (.int .u32 0), (.int .u32 0)]), none⟩,
    ⟨some 7, .h (.alloc [(.int .u32 0), (.int .u32 0), (.int .u32 0), (.int .u32 0)]), none⟩,
    ⟨none, .h (.store 4 (.t 6) (.t 17)), none⟩,
    ⟨none, .h (.store 4 (.t 7) (.t 20)), none⟩])
  (.seq (.seq (.reg [⟨some 21, .h (.load true 64 (.g 1)), none⟩,
    ⟨some 22, .p (.mov (.c (.int .i64 0))), none⟩])
  (.block 0 (.loop (.seq (.reg [⟨some 23, .p (.bin .lss (.t 22) (.c (.int .i64 64))), none⟩])
  (.seq (.cond (.t 23) .skip (.exit 0))
  (.seq (.block 1 (.seq (.reg [⟨some 24, .p (.mov (.t 22)), none⟩,
    ⟨some 25, .v (.idx false 1 64 (.t 21) (.t 22)), none⟩,
    ⟨some 8, .p (.mov (.t 24)), none⟩,
    ⟨some 9, .p (.mov (.t 25)), none⟩])
  (.seq (.draw 26 [] [⟨some 26, .p (.idxA 1 (some 4) (.t 7) (.c (.int .i64 3))), none⟩,
    ⟨some 27, .h (.load false 1 (.t 26)), none⟩,
    ⟨some 28, .p (.idxA 1 (some 4) (.t 7) (.c (.int .i64 0))), none⟩,
    ⟨some 29, .h (.load false 1 (.t 28)), none⟩,
    ⟨some 30, .call 64 [(.t 29), (.c (.int .i64 6)), (.c (.int .i64 11)), (.c (.int .i64 25))], none⟩,
    ⟨some 31, .p (.binw .add (.t 27) (.t 30)), none⟩,
    ⟨some 32, .p (.idxA 1 (some 4) (.t 7) (.c (.int .i64 0))), none⟩,
    ⟨some 33, .h (.load false 1 (.t 32)), none⟩,
    ⟨some 34, .p (.idxA 1 (some 4) (.t 7) (.c (.int .i64 1))), none⟩,
    ⟨some 35, .h (.load false 1 (.t 34)), none⟩,
    ⟨some 36, .p (.binw .and (.t 33) (.t 35)), none⟩,
    ⟨some 37, .p (.idxA 1 (some 4) (.t 7) (.c (.int .i64 0))), none⟩,
    ⟨some 38, .h (.load false 1 (.t 37)), none⟩,
    ⟨some 39, .p (.un .xor (.t 38)), none⟩,
    ⟨some 40, .p (.idxA 1 (some 4) (.t 7) (.c (.int .i64 2))), none⟩,
    ⟨some 41, .h (.load false 1 (.t 40)), none⟩,
    ⟨some 42, .p (.binw .and (.t 39) (.t 41)), none⟩,
    ⟨some 43, .p (.binw .xor (.t 36) (.t 42)), none⟩,
    ⟨some 44, .p (.binw .add (.t 31) (.t 43)), none⟩,
    ⟨some 45, .p (.mov (.t 9)), none⟩,
    ⟨some 46, .p (.binw .add (.t 44) (.t 45)), none⟩,
    ⟨some 47, .p (.mov (.t 8)), none⟩,
    ⟨some 48, .p (.idxA 1 (some 64) (.t 5) (.t 47)), none⟩,
    ⟨some 49, .h (.load false 1 (.t 48)), none⟩,
    ⟨some 50, .p (.binw .add (.t 46) (.t 49)), none⟩,
    ⟨some 10, .p (.mov (.t 50)), none⟩])
  (.seq (.draw 22 [] [⟨some 51, .p (.idxA 1 (some 4) (.t 6) (.c (.int .i64 0))), none⟩,
    ⟨some 52, .h (.load false 1 (.t 51)), none⟩,
    ⟨some 53, .call 64 [(.t 52), (.c (.int .i64 2)), (.c (.int .i64 13)), (.c (.int .i64 22))], none⟩,
    ⟨some 54, .p (.idxA 1 (some 4) (.t 6) (.c (.int .i64 0))), none⟩,
    ⟨some 55, .h (.load false 1 (.t 54)), none⟩,
    ⟨some 56, .p (.idxA 1 (some 4) (.t 6) (.c (.int .i64 1))), none⟩,
    ⟨some 57, .h (.load false 1 (.t 56)), none⟩,
    ⟨some 58, .p (.binw .and (.t 55) (.t 57)), none⟩,
    ⟨some 59, .p (.idxA 1 (some 4) (.t 6) (.c (.int .i64 0))), none⟩,
    ⟨some 60, .h (.load false 1 (.t 59)), none⟩,
    ⟨some 61, .p (.idxA 1 (some 4) (.t 6) (.c (.int .i64 2))), none⟩,
    ⟨some 62, .h (.load false 1 (.t 61)), none⟩,
    ⟨some 63, .p (.binw .and (.t 60) (.t 62)), none⟩,
    ⟨some 64, .p (.binw .xor (.t 58) (.t 63)), none⟩,
    ⟨some 65, .p (.idxA 1 (some 4) (.t 6) (.c (.int .i64 1))), none⟩,
    ⟨some 66, .h (.load false 1 (.t 65)), none⟩,
    ⟨some 67, .p (.idxA 1 (some 4) (.t 6) (.c (.int .i64 2))), none⟩,
    ⟨some 68, .h (.load false 1 (.t 67)), none⟩,
    ⟨some 69, .p (.binw .and (.t 66) (.t 68)), none⟩,
    ⟨some 70, .p (.binw .xor (.t 64) (.t 69)), none⟩,
    ⟨some 71, .p (.binw .add (.t 53) (.t 70)), none⟩,
    ⟨some 11, .p (.mov (.t 71)), none⟩])
  (.seq (.reg [⟨some 72, .p (.idxA 1 (some 4) (.t 6) (.c (.int .i64 3))), none⟩,
    ⟨some 73, .h (.load false 1 (.t 72)), none⟩,
    ⟨some 74, .p (.mov (.t 10)), none⟩,
    ⟨some 75, .p (.binw .add (.t 73) (.t 74)), none⟩,
    ⟨some 76, .p (.idxA 1 (some 4) (.t 7) (.c (.int .i64 0))), none⟩,
    ⟨some 77, .h (.load false 1 (.t 76)), none⟩,
    ⟨some 78, .p (.idxA 1 (some 4) (.t 7) (.c (.int .i64 1))), none⟩,
    ⟨some 79, .h (.load false 1 (.t 78)), none⟩,
    ⟨some 80, .p (.idxA 1 (some 4) (.t 7) (.c (.int .i64 2))), none⟩,
    ⟨some 81, .h (.load false 1 (.t 80)), none⟩,
    ⟨some 82, .v (.build [(.int .u32 0), (.int .u32 0), (.int .u32 0), (.int .u32 0)] [(0, 1, (.t 75)), (1, 1, (.t 77)), (2, 1, (.t 79)), (3, 1, (.t 81))]), none⟩,
    ⟨none, .h (.store 4 (.t 7) (.t 82)), none⟩])
  (.reg [⟨some 83, .p (.mov (.t 10)), none⟩,
    ⟨some 84, .p (.mov (.t 11)), none⟩,
    ⟨some 85, .p (.binw .add (.t 83) (.t 84)), none⟩,
    ⟨some 86, .p (.idxA 1 (some 4) (.t 6) (.c (.int .i64 0))), none⟩,
    ⟨some 87, .h (.load false 1 (.t 86)), none⟩,
    ⟨some 88, .p (.idxA 1 (some 4) (.t 6) (.c (.int .i64 1))), none⟩,
    ⟨some 89, .h (.load false 1 (.t 88)), none⟩,
    ⟨some 90, .p (.idxA 1 (some 4) (.t 6) (.c (.int .i64 2))), none⟩,
    ⟨some 91, .h (.load false 1 (.t 90)), none⟩,
    ⟨some 92, .v (.build [(.int .u32 0), (.int .u32 0), (.int .u32 0), (.int .u32 0)] [(0, 1, (.t 85)), (1, 1, (.t 87)), (2, 1, (.t 89)), (3, 1, (.t 91))]), none⟩,
    ⟨none, .h (.store 4 (.t 6) (.t 92)), none⟩]))))))
  (.reg [⟨some 93, .p (.bin .add (.t 22) (.c (.int .i64 1))), none⟩,
    ⟨some 22, .p (.mov (.t 93)), none⟩])))))))
  (.seq (.seq (.reg [⟨some 94, .p (.mov (.c (.int .i64 0))), none⟩])
  (.block 2 (.loop (.seq (.reg [⟨some 95, .p (.bin .lss (.t 94) (.c (.int .i64 4))), none⟩])
  (.seq (.cond (.t 95) .skip (.exit 2))
  (.seq (.block 3 (.seq (.reg [⟨some 96, .p (.mov (.t 94)), none⟩,
    ⟨some 12, .p (.mov (.t 96)), none⟩])
  (.seq (.draw 9 [(2, 8), (5, 8)] [⟨some 97, .p (.mov (.t 12)), none⟩,
    ⟨some 98, .p (.idxA 1 (some 8) (.t 2) (.t 97)), none⟩,
    ⟨some 99, .h (.load false 1 (.t 98)), none⟩,
    ⟨some 100, .p (.mov (.t 12)), none⟩,
    ⟨some 101, .p (.idxA 1 (some 4) (.t 6) (.t 100)), none⟩,
    ⟨some 102, .h (.load false 1 (.t 101)), none⟩,
    ⟨some 103, .p (.binw .add (.t 99) (.t 102)), none⟩,
    ⟨some 104, .p (.idxA 1 (some 8) (.t 2) (.t 97)), none⟩,
    ⟨none, .h (.store 1 (.t 104) (.t 103)), none⟩])
  (.draw 10 [(3, 9), (6, 9)] [⟨some 105, .p (.mov (.t 12)), none⟩,
    ⟨some 106, .p (.bin .add (.t 105) (.c (.int .i64 4))), none⟩,
    ⟨some 107, .p (.idxA 1 (some 8) (.t 2) (.t 106)), none⟩,
    ⟨some 108, .h (.load false 1 (.t 107)), none⟩,
    ⟨some 109, .p (.mov (.t 12)), none⟩,
    ⟨some 110, .p (.idxA 1 (some 4) (.t 7) (.t 109)), none⟩,
    ⟨some 111, .h (.load false 1 (.t 110)), none⟩,
    ⟨some 112, .p (.binw .add (.t 108) (.t 111)), none⟩,
    ⟨some 113, .p (.idxA 1 (some 8) (.t 2) (.t 106)), none⟩,
    ⟨none, .h (.store 1 (.t 113) (.t 112)), none⟩]))))
  (.reg [⟨some 114, .p (.bin .add (.t 94) (.c (.int .i64 1))), none⟩,
    ⟨some 94, .p (.mov (.t 114)), none⟩])))))))
  (.seq (.reg [⟨some 115, .h (.load true 8 (.t 2)), none⟩,
    ⟨none, .h (.store 8 (.t 4) (.t 115)), none⟩])
  .ret))))))
def rs57 : List AR := [.cell 4 true 8]
theorem ok57 : okF Tryd.prog 57 116 ac57 rs57 = true := by kernel_rfl
/-- simulacrum/wire.Int -/
def ac58 : AC := (.seq (.reg [⟨some 2, .p (.mov (.c .nils)), none⟩])
  (.seq (.reg [⟨some 5, .p (.mov (.t 0)), none⟩,
    ⟨some 6, .p (.convw .u64 (.t 5)), none⟩,
    ⟨some 7, .p (.binw .shl (.t 6) (.c (.int .u64 1))), none⟩,
    ⟨some 8, .p (.mov (.t 0)), none⟩,
    ⟨some 9, .p (.binw .shr (.t 8) (.c (.int .u64 63))), none⟩,
    ⟨some 10, .p (.convw .u64 (.t 9)), none⟩,
    ⟨some 11, .p (.binw .xor (.t 7) (.t 10)), none⟩,
    ⟨some 3, .p (.mov (.t 11)), none⟩])
  (.seq (.reg [⟨some 4, .p (.mov (.c .nils)), none⟩])
  (.seq (.block 0 (.loop (.seq (.seq (.reg [⟨some 12, .p (.mov (.t 3)), none⟩,
    ⟨some 13, .p (.binw .gtr (.t 12) (.c (.int .u64 127))), none⟩])
  (.cond (.t 13) .skip (.exit 0)))
  (.seq (.block 1 (.reg [⟨some 16, .p (.mov (.t 4)), none⟩,
    ⟨some 17, .p (.mov (.t 3)), none⟩,
    ⟨some 18, .p (.convw .u8 (.t 17)), none⟩,
    ⟨some 19, .p (.binw .or (.t 18) (.c (.int .u8 128))), none⟩,
    ⟨some 20, .d (.bslice 1 1 [(.int .u8 0)] [(0, (.t 19))]), none⟩,
    ⟨some 21, .l (.append 1 1 (.t 16) (.t 20)), none⟩,
    ⟨some 4, .p (.mov (.t 21)), none⟩]))
  (.reg [⟨some 14, .p (.mov (.t 3)), none⟩,
    ⟨some 15, .p (.binw .shr (.t 14) (.c (.int .u64 7))), none⟩,
    ⟨some 3, .p (.mov (.t 15)), none⟩])))))
  (.seq (.reg [⟨some 22, .p (.mov (.t 4)), none⟩,
    ⟨some 23, .p (.mov (.t 3)), none⟩,
    ⟨some 24, .p (.convw .u8 (.t 23)), none⟩,
    ⟨some 25, .d (.bslice 1 1 [(.int .u8 0)] [(0, (.t 24))]), none⟩,
    ⟨some 26, .l (.append 1 1 (.t 22) (.t 25)), none⟩,
    ⟨some 2, .p (.mov (.t 26)), none⟩])
  .ret)))))
def rs58 : List AR := [.tmp 2]
theorem ok58 : okF Tryd.prog 58 27 ac58 rs58 = true := by kernel_rfl
/-- simulacrum/hash.schedule -/
def ac63 : AC := (.seq (.reg [⟨some 2, .h (.alloc [(.int .u32 0), (.int .u32 0), (.int .u32 0), (.int .u32 0), (.int .u32 0), (.int .u32 0), (.int .u32 0), (.int .u32 0), (.int .u32 0), (.int .u32 0), (.int .u32 0), (.int .u32 0), (.int .u32 0), (.int .u32 0), (.int .u32 0), (.int .u32 0), (.int .u32 0), (.int .u32 0), (.int .u32 0), (.int .u32 0), (.int .u32 0), (.int .u32 0), (.int .u32 0), (.int .u32 0), (.int .u32 0), (.int .u32 0), (.int .u32 0), (.int .u32 0), (.int .u32 0), (.int .u32 0), (.int .u32 0), (.int .u32 0), (.int .u32 0), (.int .u32 0), (.int .u32 0), (.int .u32 0), (.int .u32 0), (.int .u32 0), (.int .u32 0), (.int .u32 0), (.int .u32 0), (.int .u32 0), (.int .u32 0), (.int .u32 0), (.int .u32 0), (.int .u32 0), (.int .u32 0), (.int .u32 0), (.int .u32 0), (.int .u32 0), (.int .u32 0), (.int .u32 0), (.int .u32 0), (.int .u32 0), (.int .u32 0), (.int .u32 0), (.int .u32 0), (.int .u32 0), (.int .u32 0), (.int .u32 0), (.int .u32 0), (.int .u32 0), (.int .u32 0), (.int .u32 0)]), none⟩])
  (.seq (.reg [⟨some 3, .h (.alloc [(.int .u32 0), (.int .u32 0), (.int .u32 0), (.int .u32 0), (.int .u32 0), (.int .u32 0), (.int .u32 0), (.int .u32 0), (.int .u32 0), (.int .u32 0), (.int .u32 0), (.int .u32 0), (.int .u32 0), (.int .u32 0), (.int .u32 0), (.int .u32 0), (.int .u32 0), (.int .u32 0), (.int .u32 0), (.int .u32 0), (.int .u32 0), (.int .u32 0), (.int .u32 0), (.int .u32 0), (.int .u32 0), (.int .u32 0), (.int .u32 0), (.int .u32 0), (.int .u32 0), (.int .u32 0), (.int .u32 0), (.int .u32 0), (.int .u32 0), (.int .u32 0), (.int .u32 0), (.int .u32 0), (.int .u32 0), (.int .u32 0), (.int .u32 0), (.int .u32 0), (.int .u32 0), (.int .u32 0), (.int .u32 0), (.int .u32 0), (.int .u32 0), (.int .u32 0), (.int .u32 0), (.int .u32 0), (.int .u32 0), (.int .u32 0), (.int .u32 0), (.int .u32 0), (.int .u32 0), (.int .u32 0), (.int .u32 0), (.int .u32 0), (.int .u32 0), (.int .u32 0), (.int .u32 0), (.int .u32 0), (.int .u32 0), (.int .u32 0), (.int .u32 0), (.int .u32 0)]), none⟩])
  (.seq (.seq (.reg [⟨some 11, .p (.mov (.c (.int .i64 0))), none⟩])
  (.block 0 (.loop (.seq (.reg [⟨some 12, .p (.bin .lss (.t 11) (.c (.int .i64 64))), none⟩])
  (.seq (.cond (.t 12) .skip (.exit 0))
  (.seq (.block 1 (.seq (.reg [⟨some 13, .p (.mov (.t 11)), none⟩,
    ⟨some 4, .p (.mov (.t 13)), none⟩])
  (.seq (.seq (.reg [⟨some 14, .p (.mov (.t 4)), none⟩,
    ⟨some 15, .p (.bin .lss (.t 14) (.c (.int .i64 16))), none⟩])
  (.cond (.t 15) (.seq (.seq (.reg [⟨some 16, .p (.mov (.t 0)), none⟩,
    ⟨some 17, .p (.mov (.t 4)), none⟩,
    ⟨some 18, .p (.bin .mul (.c (.int .i64 4)) (.t 17)), none⟩,
    ⟨some 19, .p (.mov (.t 4)), none⟩,
    ⟨some 20, .p (.bin .mul (.c (.int .i64 4)) (.t 19)), none⟩,
    ⟨some 21, .p (.bin .add (.t 20) (.c (.int .i64 4))), none⟩,
    ⟨some 22, .v (.sub 1 (.t 16) (some (.t 18)) (some (.t 21)) none), none⟩,
    ⟨some 23, .p (.len false (.t 22)), none⟩,
    ⟨some 24, .p (.mov (.c (.int .i64 0))), none⟩])
  (.block 2 (.loop (.seq (.reg [⟨some 25, .p (.bin .lss (.t 24) (.t 23)), none⟩])
  (.seq (.cond (.t 25) .skip (.exit 2))
  (.seq (.block 3 (.seq (.reg [⟨some 26, .p (.idxA 1 none (.t 22) (.t 24)), none⟩,
    ⟨some 27, .h (.load false 1 (.t 26)), none⟩,
    ⟨some 6, .p (.mov (.t 27)), none⟩])
  (.reg [⟨some 28, .p (.mov (.t 4)), none⟩,
    ⟨some 29, .p (.mov (.t 4)), none⟩,
    ⟨some 30, .p (.idxA 1 (some 64) (.t 3) (.t 29)), none⟩,
    ⟨some 31, .h (.load false 1 (.t 30)), none⟩,
    ⟨some 32, .p (.binw .shl (.t 31) (.c (.int .u64 8))), none⟩,
    ⟨some 33, .p (.mov (.t 6)), none⟩,
    ⟨some 34, .p (.conv .u32 (.t 33)), none⟩,
    ⟨some 35, .p (.binw .or (.t 32) (.t 34)), none⟩,
    ⟨some 36, .p (.idxA 1 (some 64) (.t 3) (.t 28)), none⟩,
    ⟨none, .h (.store 1 (.t 36) (.t 35)), none⟩])))
  (.reg [⟨some 37, .p (.bin .add (.t 24) (.c (.int .i64 1))), none⟩,
    ⟨some 24, .p (.mov (.t 37)), none⟩])))))))
  (.exit 1)) .skip))
  (.seq (.draw 10 [] [⟨some 38, .p (.mov (.t 4)), none⟩,
    ⟨some 39, .p (.bin .sub (.t 38) (.c (.int .i64 15))), none⟩,
    ⟨some 40, .p (.idxA 1 (some 64) (.t 3) (.t 39)), none⟩,
    ⟨some 41, .h (.load false 1 (.t 40)), none⟩,
    ⟨some 42, .p (.mov (.t 4)), none⟩,
    ⟨some 43, .p (.bin .sub (.t 42) (.c (.int .i64 2))), none⟩,
    ⟨some 44, .p (.idxA 1 (some 64) (.t 3) (.t 43)), none⟩,
    ⟨some 45, .h (.load false 1 (.t 44)), none⟩,
    ⟨some 7, .p (.mov (.t 41)), none⟩,
    ⟨some 8, .p (.mov (.t 45)), none⟩])
  (.seq (.reg [⟨some 46, .p (.mov (.t 7)), none⟩,
    ⟨some 47, .call 65 [(.t 46), (.c (.int .i64 (-7)))], none⟩,
    ⟨some 48, .p (.mov (.t 7)), none⟩,
    ⟨some 49, .call 65 [(.t 48), (.c (.int .i64 (-18)))], none⟩,
    ⟨some 50, .p (.binw .xor (.t 47) (.t 49)), none⟩,
    ⟨some 51, .p (.mov (.t 7)), none⟩,
    ⟨some 52, .p (.binw .shr (.t 51) (.c (.int .u64 3))), none⟩,
    ⟨some 53, .p (.binw .xor (.t 50) (.t 52)), none⟩,
    ⟨some 9, .p (.mov (.t 53)), none⟩])
  (.seq (.reg [⟨some 54, .p (.mov (.t 8)), none⟩,
    ⟨some 55, .call 65 [(.t 54), (.c (.int .i64 (-17)))], none⟩,
    ⟨some 56, .p (.mov (.t 8)), none⟩,
    ⟨some 57, .call 65 [(.t 56), (.c (.int .i64 (-19)))], none⟩,
    ⟨some 58, .p (.binw .xor (.t 55) (.t 57)), none⟩,
    ⟨some 59, .p (.mov (.t 8)), none⟩,
    ⟨some 60, .p (.binw .shr (.t 59) (.c (.int .u64 10))), none⟩,
    ⟨some 61, .p (.binw .xor (.t 58) (.t 60)), none⟩,
    ⟨some 10, .p (.mov (.t 61)), none⟩])
  (.draw 16 [(4, 15), (10, 15)] [⟨some 62, .p (.mov (.t 4)), none⟩,
    ⟨some 63, .p (.mov (.t 4)), none⟩,
    ⟨some 64, .p (.bin .sub (.t 63) (.c (.int .i64 16))), none⟩,
    ⟨some 65, .p (.idxA 1 (some 64) (.t 3) (.t 64)), none⟩,
    ⟨some 66, .h (.load false 1 (.t 65)), none⟩,
    ⟨some 67, .p (.mov (.t 9)), none⟩,
    ⟨some 68, .p (.binw .add (.t 66) (.t 67)), none⟩,
    ⟨some 69, .p (.mov (.t 4)), none⟩,
    ⟨some 70, .p (.bin .sub (.t 69) (.c (.int .i64 7))), none⟩,
    ⟨some 71, .p (.idxA 1 (some 64) (.t 3) (.t 70)), none⟩,
    ⟨some 72, .h (.load false 1 (.t 71)), none⟩,
    ⟨some 73, .p (.binw .add (.t 68) (.t 72)), none⟩,
    ⟨some 74, .p (.mov (.t 10)), none⟩,
    ⟨some 75, .p (.binw .add (.t 73) (.t 74)), none⟩,
    ⟨some 76, .p (.idxA 1 (some 64) (.t 3) (.t 62)), none⟩,
    ⟨none, .h (.store 1 (.t 76) (.t 75)), none⟩])))))))
  (.reg [⟨some 77, .p (.bin .add (.t 11) (.c (.int .i64 1))), none⟩,
    ⟨some 11, .p (.mov (.t 77)), none⟩])))))))
  (.seq (.reg [⟨some 78, .h (.load true 64 (.t 3)), none⟩,
    ⟨none, .h (.store 64 (.t 2) (.t 78)), none⟩])
  .ret))))
def rs63 : List AR := [.cell 2 true 64]
theorem ok63 : okF Tryd.prog 63 79 ac63 rs63 = true := by kernel_rfl
/-- simulacrum/hash.mix -/
def ac64 : AC := (.seq (.reg [⟨some 8, .p (.mov (.c (.int .u32 0))), none⟩])
  (.seq (.reg [⟨some 9, .p (.mov (.t 0)), none⟩,
    ⟨some 10, .p (.mov (.t 1)), none⟩,
    ⟨some 11, .p (.un .neg (.t 10)), none⟩,
    ⟨some 12, .call 65 [(.t 9), (.t 11)], none⟩,
    ⟨some 13, .p (.mov (.t 0)), none⟩,
    ⟨some 14, .p (.mov (.t 2)), none⟩,
    ⟨some 15, .p (.un .neg (.t 14)), none⟩,
    ⟨some 16, .call 65 [(.t 13), (.t 15)], none⟩,
    ⟨some 17, .p (.binw .xor (.t 12) (.t 16)), none⟩,
    ⟨some 18, .p (.mov (.t 0)), none⟩,
    ⟨some 19, .p (.mov (.t 3)), none⟩,
    ⟨some 20, .p (.un .neg (.t 19)), none⟩,
    ⟨some 21, .call 65 [(.t 18), (.t 20)], none⟩,
    ⟨some 22, .p (.binw .xor (.t 17) (.t 21)), none⟩,
    ⟨some 8, .p (.mov (.t 22)), none⟩])
  .ret))
def rs64 : List AR := [.tmp 8]
theorem ok64 : okF Tryd.prog 64 23 ac64 rs64 = true := by kernel_rfl
/-- math/bits.RotateLeft32 -/
def ac65 : AC := (.seq (.reg [⟨some 4, .p (.mov (.c (.int .u32 0))), none⟩])
  (.seq (.reg [⟨some 6, .p (.mov (.t 1)), none⟩,
    ⟨some 7, .p (.convw .u64 (.t 6)), none⟩,
    ⟨some 8, .p (.binw .and (.t 7) (.c (.int .u64 31))), none⟩,
    ⟨some 5, .p (.mov (.t 8)), none⟩])
  (.seq (.reg [⟨some 9, .p (.mov (.t 0)), none⟩,
    ⟨some 10, .p (.mov (.t 5)), none⟩,
    ⟨some 11, .p (.binw .shl (.t 9) (.t 10)), none⟩,
    ⟨some 12, .p (.mov (.t 0)), none⟩,
    ⟨some 13, .p (.mov (.t 5)), none⟩,
    ⟨some 14, .p (.binw .sub (.c (.int .u64 32)) (.t 13)), none⟩,
    ⟨some 15, .p (.binw .shr (.t 12) (.t 14)), none⟩,
    ⟨some 16, .p (.binw .or (.t 11) (.t 15)), none⟩,
    ⟨some 4, .p (.mov (.t 16)), none⟩])
  .ret)))
def rs65 : List AR := [.tmp 4]
theorem ok65 : okF Tryd.prog 65 17 ac65 rs65 = true := by kernel_rfl
end Go.Proofs

namespace Go.Proofs
open Go Go.Eng
set_option maxRecDepth 100000
/-! ### Words -/
abbrev W (n : Nat) : AV := .int .u32 (n : Int)
abbrev I (n : Int) : AV := .int .i64 n
theorem w32 (n : Int) : IntKind.u32.wrap n = n % 4294967296 := by
  have : IntKind.u32.wrap n = if IntKind.u32.signed then (let r := n % 2 ^ IntKind.u32.bits; if r < 2 ^ (IntKind.u32.bits - 1) then r else r - 2 ^ IntKind.u32.bits) else n % 2 ^ IntKind.u32.bits := by
    first | rfl | (simp [IntKind.wrap])
  rw [this]; rfl
theorem b32 (n : Nat) (h : n < 4294967296) : (BitVec.ofInt 32 (n : Int)).toNat = n := by
  rw [BitVec.toNat_ofInt]
  omega
theorem wand {a b : Nat} (ha : a < 4294967296) (hb : b < 4294967296) : IntKind.u32.wrap (BitVec.ofInt IntKind.u32.bits (a : Int) &&& BitVec.ofInt IntKind.u32.bits (b : Int)).toNat = ((a &&& b : Nat) : Int) := by
  show IntKind.u32.wrap (BitVec.ofInt 32 (a : Int) &&& BitVec.ofInt 32 (b : Int)).toNat = _
  rw [w32, BitVec.toNat_and, b32 a ha, b32 b hb]
  have := Nat.and_lt_two_pow a (n := 32) hb
  omega
theorem wor {a b : Nat} (ha : a < 4294967296) (hb : b < 4294967296) : IntKind.u32.wrap (BitVec.ofInt IntKind.u32.bits (a : Int) ||| BitVec.ofInt IntKind.u32.bits (b : Int)).toNat = ((a ||| b : Nat) : Int) := by
  show IntKind.u32.wrap (BitVec.ofInt 32 (a : Int) ||| BitVec.ofInt 32 (b : Int)).toNat = _
  rw [w32, BitVec.toNat_or, b32 a ha, b32 b hb]
  have := Nat.or_lt_two_pow (n := 32) ha hb
  omega
theorem wxor {a b : Nat} (ha : a < 4294967296) (hb : b < 4294967296) : IntKind.u32.wrap (BitVec.ofInt IntKind.u32.bits (a : Int) ^^^ BitVec.ofInt IntKind.u32.bits (b : Int)).toNat = ((a ^^^ b : Nat) : Int) := by
  show IntKind.u32.wrap (BitVec.ofInt 32 (a : Int) ^^^ BitVec.ofInt 32 (b : Int)).toNat = _
  rw [w32, BitVec.toNat_xor, b32 a ha, b32 b hb]
  have := Nat.xor_lt_two_pow (n := 32) ha hb
  omega
theorem wadd (a b : Nat) : IntKind.u32.wrap ((a : Int) + (b : Int)) = (((a + b) % 4294967296 : Nat) : Int) := by
  rw [w32]; omega
theorem wshl (a k : Nat) : IntKind.u32.wrap ((a : Int) * 2 ^ k) = ((a * 2 ^ k % 4294967296 : Nat) : Int) := by
  rw [w32]; simp
theorem wshr (a k : Nat) : (a : Int).fdiv (2 ^ k) = ((a / 2 ^ k : Nat) : Int) := by
  have : (2 : Int) ^ k = ((2 ^ k : Nat) : Int) := by simp
  rw [this, Int.fdiv_eq_ediv_of_nonneg _ (Int.natCast_nonneg _)]
  simp
theorem shr_lt {a : Nat} (h : a < 4294967296) (k : Nat) : a / 2 ^ k < 4294967296 := Nat.lt_of_le_of_lt (Nat.div_le_self _ _) h
/-- A right rotation. -/
def rotr (x n : Nat) : Nat := (x * 2 ^ (32 - n) % 4294967296) ||| (x / 2 ^ n)
theorem rotr_lt {x : Nat} (h : x < 4294967296) (n : Nat) : rotr x n < 4294967296 := Nat.or_lt_two_pow (n := 32) (Nat.mod_lt _ (by omega)) (shr_lt h n)
def rots : List Nat := [2, 6, 7, 11, 13, 17, 18, 19, 22, 25]
theorem c65 (x n : Nat) (hx : x < 4294967296) (hn : n ∈ rots) : CallA Tryd.prog 65 [W x, .int .i64 (-(n : Int))] Heap.nil fun v H' => v = W (rotr x n) ∧ H' = Heap.nil := by
  refine callA_of ok65 (Nat.le_of_ble_eq_true rfl) ?_
  have fin : ∀ k m : Nat, k + m = 32 → AV.int .u32 (IntKind.u32.wrap (BitVec.ofInt IntKind.u32.bits (IntKind.u32.wrap ((x : Int) * 2 ^ k)) ||| BitVec.ofInt IntKind.u32.bits ((x : Int).fdiv (2 ^ m))).toNat) = W (rotr x m) := by
    intro k m hkm
    rw [wshl, wshr, wor (Nat.mod_lt _ (by omega)) (shr_lt hx m)]
    have : k = 32 - m := by omega
    subst this; rfl
  simp only [rots, List.mem_cons, List.not_mem_nil, or_false] at hn
  rcases hn with rfl | rfl | rfl | rfl | rfl | rfl | rfl | rfl | rfl | rfl
  repeat' ((conv => whnf); first
      | refine Branch.ofT rfl ?_
      | refine Branch.ofF rfl ?_
      | refine Branch.dec (fun h => ?_) (fun h => ?_)
      | refine Branch.negdec (fun h => ?_) (fun h => ?_)
      | refine Branch.neg (fun h => ?_) (fun h => ?_)
      | refine Branch.mk (fun h => ?_) (fun h => ?_)
      | (refine Side.mk ?_ ?_; · first | omega | decide)
      | (refine SideD.mk ?_ ?_; · first | omega | decide)
      | refine ⟨_, Nat.lt_succ_self _, To.refl (.inl ⟨rfl, ?_⟩)⟩
      | (refine Side.mk ?_ ?_; · (simp; done))
      | fail
      )
  all_goals (conv => whnf)
  all_goals (refine RetA.data rfl ⟨?_, rfl⟩; (try simp only [one]))
  · exact fin 30 2 rfl
  · exact fin 26 6 rfl
  · exact fin 25 7 rfl
  · exact fin 21 11 rfl
  · exact fin 19 13 rfl
  · exact fin 15 17 rfl
  · exact fin 14 18 rfl
  · exact fin 13 19 rfl
  · exact fin 10 22 rfl
  · exact fin 7 25 rfl
end Go.Proofs

namespace Go.Proofs
open Go Go.Eng
set_option maxRecDepth 100000
set_option maxHeartbeats 1000000
def mixN (x i j k : Nat) : Nat := rotr x i ^^^ rotr x j ^^^ rotr x k
theorem xor_lt {a b : Nat} (ha : a < 4294967296) (hb : b < 4294967296) : a ^^^ b < 4294967296 := Nat.xor_lt_two_pow (n := 32) ha hb
theorem or_lt {a b : Nat} (ha : a < 4294967296) (hb : b < 4294967296) : a ||| b < 4294967296 := Nat.or_lt_two_pow (n := 32) ha hb
theorem and_lt {a b : Nat} (hb : b < 4294967296) : a &&& b < 4294967296 := Nat.and_lt_two_pow (n := 32) a hb
theorem mixN_lt {x : Nat} (hx : x < 4294967296) (i j k : Nat) : mixN x i j k < 4294967296 := xor_lt (xor_lt (rotr_lt hx i) (rotr_lt hx j)) (rotr_lt hx k)
theorem rots_le {n : Nat} (h : n ∈ rots) : n ≤ 25 := by
  simp only [rots, List.mem_cons, List.not_mem_nil, or_false] at h; omega
theorem c64 (x i j k : Nat) (hx : x < 4294967296) (hi : i ∈ rots) (hj : j ∈ rots) (hk : k ∈ rots) : CallA Tryd.prog 64 [W x, I i, I j, I k] Heap.nil fun v H' => v = W (mixN x i j k) ∧ H' = Heap.nil := by
  refine callA_of ok64 (Nat.le_of_ble_eq_true rfl) ?_
  have h1 := rots_le hi
  have h2 := rots_le hj
  have h3 := rots_le hk
  repeat' ((conv => whnf); first
      | refine Branch.ofT rfl ?_
      | refine Branch.ofF rfl ?_
      | refine Branch.dec (fun h => ?_) (fun h => ?_)
      | refine Branch.negdec (fun h => ?_) (fun h => ?_)
      | refine Branch.neg (fun h => ?_) (fun h => ?_)
      | refine Branch.mk (fun h => ?_) (fun h => ?_)
      | (refine Side.mk ?_ ?_; · first | omega | decide)
      | (refine SideD.mk ?_ ?_; · first | omega | decide)
      | refine ⟨_, Nat.lt_succ_self _, To.refl (.inl ⟨rfl, ?_⟩)⟩
      | refine CallA.pure (c65 x _ hx hi) rfl rfl ?_
      | refine CallA.pure (c65 x _ hx hj) rfl rfl ?_
      | refine CallA.pure (c65 x _ hx hk) rfl rfl ?_
      | (refine Side.mk ?_ ?_; · (simp; done))
      | fail
      )
  all_goals (conv => whnf)
  refine RetA.data rfl ⟨?_, rfl⟩
  simp only [one]
  rw [wxor (rotr_lt hx i) (rotr_lt hx j), wxor (xor_lt (rotr_lt hx i) (rotr_lt hx j)) (rotr_lt hx k)]; rfl
/-! ### The schedule -/
abbrev B (n : Nat) : AV := .int .u8 (n : Int)
def wstep (y b : Nat) : Nat := y * 2 ^ 8 % 4294967296 ||| b
def word (b0 b1 b2 b3 : Nat) : Nat := wstep (wstep (wstep (wstep 0 b0) b1) b2) b3
theorem wstep_lt (y : Nat) {b : Nat} (h : b < 4294967296) : wstep y b < 4294967296 := or_lt (Nat.mod_lt _ (by omega)) h
def sg0 (p : Nat) : Nat := rotr p 7 ^^^ rotr p 18 ^^^ (p / 2 ^ 3)
def sg1 (p : Nat) : Nat := rotr p 17 ^^^ rotr p 19 ^^^ (p / 2 ^ 10)
def nxt (bs ws : List Nat) (t : Nat) : Nat := if t < 16 then word (bs.getD (4 * t) 0) (bs.getD (4 * t + 1) 0) (bs.getD (4 * t + 2) 0) (bs.getD (4 * t + 3) 0)
  else (((ws.getD (t - 16) 0 + sg0 (ws.getD (t - 15) 0)) % 4294967296 + ws.getD (t - 7) 0) % 4294967296 + sg1 (ws.getD (t - 2) 0)) % 4294967296
def sched (bs : List Nat) : Nat → List Nat
  | 0 => []
  | t + 1 => sched bs t ++ [nxt bs (sched bs t) t]
theorem sched_len (bs : List Nat) : ∀ t, (sched bs t).length = t
  | 0 => rfl
  | t + 1 => by simp [sched, sched_len bs t]
theorem ldI {z : List AV} {ws : List Nat} {i off : Nat} {K : AV → Prop} (e : off = i) (h : i < ws.length) (hk : K (W (ws.getD i 0))) : nthK 0 ((ws.map W ++ z).drop off) K := by
  subst e
  rw [List.drop_append_of_le_length (by simp; omega), List.drop_eq_getElem_cons (by simpa using h)]
  simp only [List.cons_append, nthK, fv_eq, List.getElem_map]
  simpa [List.getD_eq_getElem?_getD, List.getElem?_eq_getElem h] using hk
theorem sched_lt {bs : List Nat} (hb : ∀ x ∈ bs, x < 256) : ∀ (t : Nat), ∀ x ∈ sched bs t, x < 4294967296
  | 0, x, h => by cases h
  | t + 1, x, h => by
    rcases List.mem_append.1 h with h | h
    · exact sched_lt hb t x h
    · simp only [List.mem_singleton] at h
      subst h
      unfold nxt
      split
      · refine wstep_lt _ ?_
        rw [List.getD_eq_getElem?_getD]
        cases hx : bs[4 * t + 3]? with
        | none => simp
        | some y => simp only [Option.getD_some]; exact Nat.lt_trans (hb y (List.mem_of_getElem? hx)) (by omega)
      · exact Nat.mod_lt _ (by omega)
theorem getD_lt {ws : List Nat} {m : Nat} (h : ∀ x ∈ ws, x < m) (hm : 0 < m) (i : Nat) : ws.getD i 0 < m := by
  rw [List.getD_eq_getElem?_getD]
  cases hx : ws[i]? with
  | none => simpa using hm
  | some y => exact h y (List.mem_of_getElem? hx)
theorem ld0 {ws : List Nat} {off n : Nat} {K : AV → Prop} (e : off = ws.length) (h : 0 < n) (hk : K (W 0)) : nthK 0 ((ws.map W ++ List.replicate n (W 0)).drop off) K := by
  subst e
  obtain ⟨m, rfl⟩ : ∃ m, n = m + 1 := ⟨n - 1, by omega⟩
  rw [List.drop_append, List.drop_eq_nil_of_le (by simp)]
  simpa [List.replicate_succ, nthK, fv_eq] using hk
theorem ldL {ws : List Nat} {z : List AV} {y off : Nat} {K : AV → Prop} (e : off = ws.length) (hk : K (W y)) : nthK 0 (((ws ++ [y]).map W ++ z).drop off) K := by
  refine ldI (i := ws.length) e (by simp) ?_
  simpa using hk
theorem ldB {bs : List Nat} {off off' j j' n : Nat} {K : AV → Prop} (e : off' = off) (e2 : j' = j) (e3 : n = 4) (hj : j < 4) (h : off + j < bs.length) (hk : K (B (bs.getD (off + j) 0))) : nthK 0 (((bs.map B).drop off' |>.take n).drop j') K := by
  subst e e2 e3
  have : ((bs.map B).drop off' |>.take 4).drop j' = B (bs.getD (off' + j') 0) :: (((bs.map B).drop off' |>.take 4).drop (j' + 1)) := by
    rw [List.drop_eq_getElem_cons (by simp; omega)]
    congr 1
    simp [List.getD_eq_getElem?_getD, List.getElem?_eq_getElem h]
  rw [this]
  simpa [nthK, fv_eq] using hk
theorem u32ok {x : Nat} (h : x < 4294967296) : IntKind.u32.min ≤ (x : Int) ∧ (x : Int) ≤ IntKind.u32.max := by
  have h1 : IntKind.u32.min = 0 := rfl
  have h2 : IntKind.u32.max = 4294967295 := rfl
  omega
theorem lput1 {a z : List AV} {c v : AV} {off : Nat} {K : List AV → Prop} (e : off = a.length) (hs : scal v = true) (hk : K (a ++ v :: z)) : lputK (a ++ c :: z) off [v] K := by
  subst e
  refine lputK_eq (by simp) (by simpa using hs) ?_
  simpa using hk
theorem stV {ws : List Nat} {y off n : Nat} {z : Int} {K : List AV → Prop} (e : off = ws.length) (hz : z = (y : Int)) (hn : 0 < n) (hk : K ((ws ++ [y]).map W ++ List.replicate (n - 1) (W 0))) : lputK (ws.map W ++ List.replicate n (W 0)) off [.int .u32 z] K := by
  subst hz
  obtain ⟨m, rfl⟩ : ∃ m, n = m + 1 := ⟨n - 1, by omega⟩
  rw [List.replicate_succ]
  refine lput1 (by simpa using e) rfl ?_
  simpa using hk
theorem stU {ws : List Nat} {y y0 off : Nat} {z : Int} {r : List AV} {K : List AV → Prop} (e : off = ws.length) (hz : z = (y : Int)) (hk : K ((ws ++ [y]).map W ++ r)) : lputK ((ws ++ [y0]).map W ++ r) off [.int .u32 z] K := by
  subst hz
  have e1 : ∀ y, (ws ++ [y]).map W ++ r = ws.map W ++ W y :: r := fun y => by simp
  rw [e1] at hk ⊢
  exact lput1 (by simpa using e) rfl hk
theorem rstep {y b : Nat} (hb : b < 4294967296) : IntKind.u32.wrap (BitVec.ofInt IntKind.u32.bits (IntKind.u32.wrap ((y : Int) * 2 ^ 8)) ||| BitVec.ofInt IntKind.u32.bits (b : Int)).toNat = ((wstep y b : Nat) : Int) := by
  rw [wshl, wor (Nat.mod_lt _ (by omega)) hb]; rfl
theorem rsg {p i j k : Nat} (hp : p < 4294967296) : IntKind.u32.wrap (BitVec.ofInt IntKind.u32.bits (IntKind.u32.wrap (BitVec.ofInt IntKind.u32.bits ((rotr p i : Nat) : Int) ^^^ BitVec.ofInt IntKind.u32.bits ((rotr p j : Nat) : Int)).toNat) ^^^ BitVec.ofInt IntKind.u32.bits ((p : Int).fdiv (2 ^ k))).toNat = ((rotr p i ^^^ rotr p j ^^^ (p / 2 ^ k) : Nat) : Int) := by
  rw [wxor (rotr_lt hp i) (rotr_lt hp j), wshr, wxor (xor_lt (rotr_lt hp i) (rotr_lt hp j)) (shr_lt hp k)]
theorem rnxt {a p c q : Nat} (hp : p < 4294967296) (hq : q < 4294967296) :
    IntKind.u32.wrap (IntKind.u32.wrap (IntKind.u32.wrap ((a : Int) + IntKind.u32.wrap (BitVec.ofInt IntKind.u32.bits (IntKind.u32.wrap (BitVec.ofInt IntKind.u32.bits ((rotr p 7 : Nat) : Int) ^^^ BitVec.ofInt IntKind.u32.bits ((rotr p 18 : Nat) : Int)).toNat) ^^^ BitVec.ofInt IntKind.u32.bits ((p : Int).fdiv (2 ^ 3))).toNat) + (c : Int)) +
      IntKind.u32.wrap (BitVec.ofInt IntKind.u32.bits (IntKind.u32.wrap (BitVec.ofInt IntKind.u32.bits ((rotr q 17 : Nat) : Int) ^^^ BitVec.ofInt IntKind.u32.bits ((rotr q 19 : Nat) : Int)).toNat) ^^^ BitVec.ofInt IntKind.u32.bits ((q : Int).fdiv (2 ^ 10))).toNat) =
    (((((a + sg0 p) % 4294967296 + c) % 4294967296 + sg1 q) % 4294967296 : Nat) : Int) := by
  rw [rsg hp, rsg hq, wadd, wadd, wadd]; rfl
theorem tkW {ws : List Nat} {z : List AV} {K : List AV → Prop} {n : Nat} (h : ws.length = n) (hk : K (ws.map W)) : takeK n ((ws.map W ++ z).drop 0) K := by
  subst h
  rw [List.drop_zero, takeK_eq _ _ _ (by simp)]
  rw [List.take_append_of_le_length (by simp), List.take_of_length_le (by simp)]
  exact hk
theorem tkW' {ws : List Nat} {K : List AV → Prop} {n : Nat} (h : ws.length = n) (hk : K (ws.map W)) : takeK n ((ws.map W).drop 0) K := by
  have := tkW (z := []) h hk
  rwa [List.append_nil] at this
theorem condT {b : Bool} {P : Prop} (h : b = true) (hp : P) : (bif b then P else False) := by rw [h]; exact hp
theorem lputA {cs vs : List AV} {K : List AV → Prop} (h : vs.length = cs.length) (hs : vs.all scal = true) (hk : K vs) : lputK cs 0 vs K := by
  refine lputK_eq (by omega) hs ?_
  simpa [h] using hk
theorem scal_ws (ws : List Nat) : (ws.map W).all scal = true := by
  rw [List.all_eq_true]; intro c h; obtain ⟨x, _, rfl⟩ := List.mem_map.1 h; rfl
def L63 (bs : List Nat) (cap : Option Nat) (m : Nat) (fr : Fr) (H : Heap) : Prop := ∃ t : Nat, t ≤ 64 ∧ m = 64 - t ∧ fr = [(0, .dslice (bs.map B) 64 cap), (2, .ptr 0 0), (3, .ptr 1 0), (11, I t)] ∧ H = ⟨2, [(0, .cells (List.replicate 64 (W 0))), (1, .cells ((sched bs t).map W ++ List.replicate (64 - t) (W 0)))]⟩
theorem noLoc_ws (ws : List Nat) (n : Nat) : ∀ c ∈ ws.map W ++ List.replicate n (W 0), noLoc c = true := by
  intro c h
  rcases List.mem_append.1 h with h | h
  · obtain ⟨x, _, rfl⟩ := List.mem_map.1 h; rfl
  · rw [(List.mem_replicate.1 h).2]; rfl
theorem noLocL_ws : ∀ ws : List Nat, noLocL (ws.map W) = true
  | [] => rfl
  | x :: r => by simp [noLocL, noLoc, noLocL_ws r]
theorem c63 (bs : List Nat) (cap : Option Nat) (hl : bs.length = 64) (hb : ∀ x ∈ bs, x < 256) : CallA Tryd.prog 63 [.dslice (bs.map B) 64 cap] Heap.nil fun v H' => v = .agg ((sched bs 64).map W) ∧ H' = Heap.nil := by
  refine callA_of ok63 (Nat.le_of_ble_eq_true rfl) ?_
  repeat' ((conv => whnf); first
      | refine Branch.ofT rfl ?_
      | refine Branch.ofF rfl ?_
      | refine Branch.dec (fun h => ?_) (fun h => ?_)
      | refine Branch.negdec (fun h => ?_) (fun h => ?_)
      | refine Branch.neg (fun h => ?_) (fun h => ?_)
      | refine Branch.mk (fun h => ?_) (fun h => ?_)
      | (refine Side.mk ?_ ?_; · first | omega | decide)
      | (refine SideD.mk ?_ ?_; · first | omega | decide)
      | refine ⟨_, Nat.lt_succ_self _, To.refl (.inl ⟨rfl, ?_⟩)⟩
      | (refine Side.mk ?_ ?_; · (simp; done))
      | fail
      )
  all_goals (conv => whnf)
  refine ⟨L63 bs cap, 64, To.gc [(0, true), (1, true)] [0, 2, 3, 11] rfl ⟨noLoc_ws [] 64, noLoc_ws [] 64, trivial⟩ ⟨0, by omega, rfl, rfl, rfl⟩, ?_⟩
  rintro m fr H ⟨t, ht, rfl, rfl, rfl⟩
  have hg : ∀ i, (sched bs t).getD i 0 < 4294967296 := getD_lt (sched_lt hb t) (by omega)
  have hB : ∀ i, bs.getD i 0 < 4294967296 := fun i => Nat.lt_trans (getD_lt hb (by omega) i) (by omega)
  have g15 := hg (t - 15)
  have g2 := hg (t - 2)
  have sl := sched_len bs t
  by_cases h64 : t < 64
  · by_cases h16 : t < 16
    · repeat' ((conv => whnf); first
          | refine Branch.ofT rfl ?_
          | refine Branch.ofF rfl ?_
          | refine Branch.ofT (decide_eq_true (by omega)) ?_
          | refine Branch.ofF (decide_eq_false (by omega)) ?_
          | refine Branch.dec (fun h => ?_) (fun h => ?_)
          | refine Branch.negdec (fun h => ?_) (fun h => ?_)
          | refine Branch.neg (fun h => ?_) (fun h => ?_)
          | refine Branch.mk (fun h => ?_) (fun h => ?_)
          | (refine Side.mk ?_ ?_; · first | omega | decide)
          | (refine SideD.mk ?_ ?_; · first | omega | decide)
          | refine ⟨_, Nat.lt_succ_self _, To.refl (.inl ⟨rfl, ?_⟩)⟩
          | refine LoopA.unroll _ _ _ 4 ?_
          | refine ldB (off := 4 * t) (j := 0) (by omega) (by rfl) (by omega) (by omega) (by omega) ?_
          | refine ldB (off := 4 * t) (j := 1) (by omega) (by rfl) (by omega) (by omega) (by omega) ?_
          | refine ldB (off := 4 * t) (j := 2) (by omega) (by rfl) (by omega) (by omega) (by omega) ?_
          | refine ldB (off := 4 * t) (j := 3) (by omega) (by rfl) (by omega) (by omega) (by omega) ?_
          | refine Side.mk (u32ok (hB _)) ?_
          | refine ldL (by omega) ?_
          | refine ld0 (by omega) (by omega) ?_
          | refine stU (by omega) (rstep (hB _)) ?_
          | refine stV (by omega) (rstep (hB _)) (by omega) ?_
          | (refine Side.mk ?_ ?_; · (simp; done))
          | fail
          )
      all_goals (conv => whnf)
      have e1 : sched bs (t + 1) = sched bs t ++ [word (bs.getD (4 * t) 0) (bs.getD (4 * t + 1) 0) (bs.getD (4 * t + 2) 0) (bs.getD (4 * t + 3) 0)] := by
        show sched bs t ++ [nxt bs (sched bs t) t] = _
        unfold nxt; rw [if_pos h16]
      exact ⟨64 - (t + 1), by omega, To.gc [(0, true), (1, true)] [0, 2, 3, 11] rfl ⟨noLoc_ws [] 64, noLoc_ws _ _, trivial⟩ ⟨t + 1, by omega, rfl, rfl, by rw [e1, show 64 - (t + 1) = 64 - t - 1 by omega]; rfl⟩⟩
    · have e : nxt bs (sched bs t) t = ((((sched bs t).getD (t - 16) 0 + sg0 ((sched bs t).getD (t - 15) 0)) % 4294967296 + (sched bs t).getD (t - 7) 0) % 4294967296 + sg1 ((sched bs t).getD (t - 2) 0)) % 4294967296 := by unfold nxt; rw [if_neg h16]
      repeat' ((conv => whnf); first
          | refine Branch.ofT rfl ?_
          | refine Branch.ofF rfl ?_
          | refine Branch.ofT (decide_eq_true (by omega)) ?_
          | refine Branch.ofF (decide_eq_false (by omega)) ?_
          | refine Branch.dec (fun h => ?_) (fun h => ?_)
          | refine Branch.negdec (fun h => ?_) (fun h => ?_)
          | refine Branch.neg (fun h => ?_) (fun h => ?_)
          | refine Branch.mk (fun h => ?_) (fun h => ?_)
          | (refine Side.mk ?_ ?_; · first | omega | decide)
          | (refine SideD.mk ?_ ?_; · first | omega | decide)
          | refine ⟨_, Nat.lt_succ_self _, To.refl (.inl ⟨rfl, ?_⟩)⟩
          | refine ldI (i := t - 15) (by omega) (by rw [sched_len]; omega) ?_
          | refine ldI (i := t - 2) (by omega) (by rw [sched_len]; omega) ?_
          | refine ldI (i := t - 16) (by omega) (by rw [sched_len]; omega) ?_
          | refine ldI (i := t - 7) (by omega) (by rw [sched_len]; omega) ?_
          | refine CallA.pure (c65 _ 7 (by assumption) (by decide)) rfl rfl ?_
          | refine CallA.pure (c65 _ 18 (by assumption) (by decide)) rfl rfl ?_
          | refine CallA.pure (c65 _ 17 (by assumption) (by decide)) rfl rfl ?_
          | refine CallA.pure (c65 _ 19 (by assumption) (by decide)) rfl rfl ?_
          | refine stV (by omega) ((rnxt g15 g2).trans (by rw [← e])) (by omega) ?_
          | (refine Side.mk ?_ ?_; · (simp; done))
          | fail
          )
      all_goals (conv => whnf)
      exact ⟨64 - (t + 1), by omega, To.gc [(0, true), (1, true)] [0, 2, 3, 11] rfl ⟨noLoc_ws [] 64, noLoc_ws _ _, trivial⟩ ⟨t + 1, by omega, rfl, rfl, by rw [show 64 - (t + 1) = 64 - t - 1 by omega]; rfl⟩⟩
  · repeat' ((conv => whnf); first
        | refine Branch.ofT rfl ?_
        | refine Branch.ofF rfl ?_
        | refine Branch.ofF (decide_eq_false (by omega)) ?_
        | refine Branch.dec (fun h => ?_) (fun h => ?_)
        | refine Branch.negdec (fun h => ?_) (fun h => ?_)
        | refine Branch.neg (fun h => ?_) (fun h => ?_)
        | refine Branch.mk (fun h => ?_) (fun h => ?_)
        | (refine Side.mk ?_ ?_; · first | omega | decide)
        | (refine SideD.mk ?_ ?_; · first | omega | decide)
        | refine ⟨_, Nat.lt_succ_self _, To.refl (.inl ⟨rfl, ?_⟩)⟩
        | refine tkW (by omega) ?_
        | refine tkW' (by omega) ?_
        | refine condT (by simp [sl]; omega) ?_
        | refine lputA (by simp; omega) (scal_ws _) ?_
        | (refine Side.mk ?_ ?_; · (simp; done))
        | fail
        )
    all_goals (conv => whnf)
    have : t = 64 := by omega
    subst this
    generalize sched bs 64 = ws
    exact RetA.data (v := .agg (ws.map W)) (noLocL_ws ws) ⟨rfl, rfl⟩
end Go.Proofs

namespace Go.Proofs
open Go Go.Eng
set_option maxRecDepth 100000
set_option maxHeartbeats 4000000
def KS : List Nat := [1116352408, 1899447441, 3049323471, 3921009573, 961987163, 1508970993, 2453635748, 2870763221, 3624381080, 310598401, 607225278, 1426881987, 1925078388, 2162078206, 2614888103, 3248222580, 3835390401, 4022224774, 264347078, 604807628, 770255983, 1249150122, 1555081692, 1996064986, 2554220882, 2821834349, 2952996808, 3210313671, 3336571891, 3584528711, 113926993, 338241895, 666307205, 773529912, 1294757372, 1396182291, 1695183700, 1986661051, 2177026350, 2456956037, 2730485921, 2820302411, 3259730800, 3345764771, 3516065817, 3600352804, 4094571909, 275423344, 430227734, 506948616, 659060556, 883997877, 958139571, 1322822218, 1537002063, 1747873779, 1955562222, 2024104815, 2227730452, 2361852424, 2428436474, 2756734187, 3204031479, 3329325298]
theorem ks_eq : ks = KS.map W := rfl
structure S8 where
  (a b c d e f g h : Nat)
def S8.ok (s : S8) : Prop := s.a < 4294967296 ∧ s.b < 4294967296 ∧ s.c < 4294967296 ∧ s.d < 4294967296 ∧ s.e < 4294967296 ∧ s.f < 4294967296 ∧ s.g < 4294967296 ∧ s.h < 4294967296
def chN (e f g : Nat) : Nat := (e &&& f) ^^^ ((4294967295 ^^^ e) &&& g)
def majN (a b c : Nat) : Nat := (a &&& b) ^^^ (a &&& c) ^^^ (b &&& c)
def t1N (s : S8) (k w : Nat) : Nat := ((((s.h + mixN s.e 6 11 25) % 4294967296 + chN s.e s.f s.g) % 4294967296 + k) % 4294967296 + w) % 4294967296
def t2N (s : S8) : Nat := (mixN s.a 2 13 22 + majN s.a s.b s.c) % 4294967296
def S8.round (s : S8) (k w : Nat) : S8 := ⟨(t1N s k w + t2N s) % 4294967296, s.a, s.b, s.c, (s.d + t1N s k w) % 4294967296, s.e, s.f, s.g⟩
def rounds (ws : List Nat) (s : S8) : Nat → S8
  | 0 => s
  | t + 1 => (rounds ws s t).round (KS.getD t 0) (ws.getD t 0)
def S8.add (s v : S8) : S8 := ⟨(s.a + v.a) % 4294967296, (s.b + v.b) % 4294967296, (s.c + v.c) % 4294967296, (s.d + v.d) % 4294967296, (s.e + v.e) % 4294967296, (s.f + v.f) % 4294967296, (s.g + v.g) % 4294967296, (s.h + v.h) % 4294967296⟩
def S8.av (s : S8) : List AV := [W s.a, W s.b, W s.c, W s.d, W s.e, W s.f, W s.g, W s.h]
def compN (s : S8) (bs : List Nat) : S8 := s.add (rounds (sched bs 64) s 64)
theorem round_ok {s : S8} (h : s.ok) (k w : Nat) : (s.round k w).ok := ⟨Nat.mod_lt _ (by omega), h.1, h.2.1, h.2.2.1, Nat.mod_lt _ (by omega), h.2.2.2.2.1, h.2.2.2.2.2.1, h.2.2.2.2.2.2.1⟩
theorem rounds_ok {ws : List Nat} {s : S8} (h : s.ok) : ∀ t, (rounds ws s t).ok
  | 0 => h
  | t + 1 => round_ok (rounds_ok h t) _ _
def v4 (s : S8) : List AV := [W s.a, W s.b, W s.c, W s.d]
def e4 (s : S8) : List AV := [W s.e, W s.f, W s.g, W s.h]
def z8 : List AV := [W 0, W 0, W 0, W 0, W 0, W 0, W 0, W 0]
attribute [local irreducible] sched
def L57 (ws : List Nat) (s : S8) (m : Nat) (fr : Fr) (H : Heap) : Prop := ∃ t : Nat, t ≤ 64 ∧ m = 64 - t ∧ fr = [(2, .ptr 0 0), (4, .ptr 1 0), (5, .ptr 2 0), (6, .ptr 3 0), (7, .ptr 4 0), (21, .agg (KS.map W)), (22, I t)] ∧ H = ⟨5, [(0, .cells s.av), (1, .cells z8), (2, .cells (ws.map W)), (3, .cells (v4 (rounds ws s t))), (4, .cells (e4 (rounds ws s t)))]⟩
abbrev bA (a b : Int) : Int := IntKind.u32.wrap (BitVec.ofInt IntKind.u32.bits a &&& BitVec.ofInt IntKind.u32.bits b).toNat
abbrev bX (a b : Int) : Int := IntKind.u32.wrap (BitVec.ofInt IntKind.u32.bits a ^^^ BitVec.ofInt IntKind.u32.bits b).toNat
theorem bA_eq {a b : Nat} (ha : a < 4294967296) (hb : b < 4294967296) : bA a b = ((a &&& b : Nat) : Int) := wand ha hb
theorem bX_eq {a b : Nat} (ha : a < 4294967296) (hb : b < 4294967296) : bX a b = ((a ^^^ b : Nat) : Int) := wxor ha hb
theorem bN {e : Nat} (h : e < 4294967296) : bX (if IntKind.u32.signed then -1 else IntKind.u32.max) (e : Int) = ((4294967295 ^^^ e : Nat) : Int) := by
  have : (if IntKind.u32.signed then -1 else IntKind.u32.max) = ((4294967295 : Nat) : Int) := rfl
  rw [this]; exact wxor (by omega) h
theorem rx {s : S8} (hs : s.ok) (k w : Nat) : IntKind.u32.wrap (IntKind.u32.wrap (IntKind.u32.wrap (IntKind.u32.wrap ((s.h : Int) + ((mixN s.e 6 11 25 : Nat) : Int)) + bX (bA s.e s.f) (bA (bX (if IntKind.u32.signed then -1 else IntKind.u32.max) (s.e : Int)) s.g)) + (k : Int)) + (w : Int)) = ((t1N s k w : Nat) : Int) := by
  obtain ⟨_, _, _, _, he, hf, hg, _⟩ := hs
  rw [bN he, bA_eq he hf, bA_eq (xor_lt (by omega) he) hg, bX_eq (and_lt hf) (and_lt hg), wadd, wadd, wadd, wadd]; rfl
theorem ry {s : S8} (hs : s.ok) : IntKind.u32.wrap (((mixN s.a 2 13 22 : Nat) : Int) + bX (bX (bA s.a s.b) (bA s.a s.c)) (bA s.b s.c)) = ((t2N s : Nat) : Int) := by
  obtain ⟨ha, hb, hc, _⟩ := hs
  rw [bA_eq ha hb, bA_eq ha hc, bA_eq hb hc, bX_eq (and_lt hb) (and_lt hc), bX_eq (xor_lt (and_lt hb) (and_lt hc)) (and_lt hc), wadd]; rfl
theorem cong2 {a b c d : Int} (h : a = b) (k : c = d) : IntKind.u32.wrap (a + c) = IntKind.u32.wrap (b + d) := by rw [h, k]
theorem heq57 {C0 C1 C2 : List AV} {A E A' E' : Int} {b c d f g h : AV} (hA : A = A') (hE : E = E') : (⟨5, [(0, .cells C0), (1, .cells C1), (2, .cells C2), (3, .cells [.int .u32 A, b, c, d]), (4, .cells [.int .u32 E, f, g, h])]⟩ : Heap) = ⟨5, [(0, .cells C0), (1, .cells C1), (2, .cells C2), (3, .cells [.int .u32 A', b, c, d]), (4, .cells [.int .u32 E', f, g, h])]⟩ := by
  subst hA hE; rfl
theorem ldW {ws : List Nat} {i off : Nat} {K : AV → Prop} (e : off = i) (h : i < ws.length) (hk : K (W (ws.getD i 0))) : nthK 0 ((ws.map W).drop off) K := by
  have := ldI (z := []) e h hk
  rwa [List.append_nil] at this
theorem dat {l : List AV} (h : l.all noLoc = true) : ∀ c ∈ l, noLoc c = true := by simpa using h
theorem dat_ws (ws : List Nat) : ∀ c ∈ ws.map W, noLoc c = true := by
  intro c h; obtain ⟨x, _, rfl⟩ := List.mem_map.1 h; rfl
theorem ks_len : KS.length = 64 := rfl
theorem rounds_zero (ws : List Nat) (s : S8) : rounds ws s 0 = s := rfl
theorem rounds_succ (ws : List Nat) (s : S8) (t : Nat) : rounds ws s (t + 1) = (rounds ws s t).round (KS.getD t 0) (ws.getD t 0) := rfl
attribute [local irreducible] rounds t1N t2N mixN
theorem c57a (s : S8) (bs ws : List Nat) (cap : Option Nat) (hs : s.ok) (h63 : CallA Tryd.prog 63 [.dslice (bs.map B) 64 cap] Heap.nil fun v H' => v = .agg (ws.map W) ∧ H' = Heap.nil) (wl : ws.length = 64) (wlt : ∀ x ∈ ws, x < 4294967296) : CallA Tryd.prog 57 [.agg s.av, .dslice (bs.map B) 64 cap] Heap.nil fun v H' => v = .agg (s.add (rounds ws s 64)).av ∧ H' = Heap.nil := by
  refine callA_of ok57 (Nat.le_of_ble_eq_true rfl) ?_
  repeat' ((conv => whnf); first
      | refine Branch.ofT rfl ?_
      | refine Branch.ofF rfl ?_
      | refine Branch.dec (fun h => ?_) (fun h => ?_)
      | refine Branch.negdec (fun h => ?_) (fun h => ?_)
      | refine Branch.neg (fun h => ?_) (fun h => ?_)
      | refine Branch.mk (fun h => ?_) (fun h => ?_)
      | (refine Side.mk ?_ ?_; · first | omega | decide)
      | (refine SideD.mk ?_ ?_; · first | omega | decide)
      | refine ⟨_, Nat.lt_succ_self _, To.refl (.inl ⟨rfl, ?_⟩)⟩
      | refine CallA.pure h63 rfl (noLocL_ws ws) ?_
      | refine condT (by simp [wl]) ?_
      | refine lputA (by simp [wl]) (scal_ws _) ?_
      | refine Side.mk (by simp [S8.av]) ?_
      | (refine Side.mk ?_ ?_; · (simp; done))
      | fail
      )
  all_goals (conv => whnf)
  refine ⟨L57 ws s, 64, To.gc [(0, true), (1, true), (2, true), (9, true), (10, true)] [2, 4, 5, 6, 7, 21, 22] rfl ⟨dat rfl, dat rfl, dat_ws ws, dat rfl, dat rfl, trivial⟩ ⟨0, by omega, rfl, ?_, ?_⟩, ?_⟩
  · rfl
  · rw [rounds_zero]; rfl
  rintro m fr H ⟨t, ht, rfl, rfl, rfl⟩
  have hr := rounds_ok (ws := ws) hs t
  have hn : rounds ws s (t + 1) = (rounds ws s t).round (KS.getD t 0) (ws.getD t 0) := rounds_succ ws s t
  generalize hr0 : rounds ws s t = r at hr hn
  by_cases h64 : t < 64
  · repeat' ((conv => whnf); first
        | refine Branch.ofT rfl ?_
        | refine Branch.ofF rfl ?_
        | refine Branch.ofT (decide_eq_true (by omega)) ?_
        | refine Branch.dec (fun h => ?_) (fun h => ?_)
        | refine Branch.negdec (fun h => ?_) (fun h => ?_)
        | refine Branch.neg (fun h => ?_) (fun h => ?_)
        | refine Branch.mk (fun h => ?_) (fun h => ?_)
        | (refine Side.mk ?_ ?_; · first | omega | decide)
        | (refine SideD.mk ?_ ?_; · first | omega | decide)
        | refine ⟨_, Nat.lt_succ_self _, To.refl (.inl ⟨rfl, ?_⟩)⟩
        | refine ldW (ws := KS) (i := t) (by omega) (by rw [ks_len]; omega) ?_
        | refine ldW (ws := ws) (i := t) (by omega) (by omega) ?_
        | refine QCallA.of (c64 r.e 6 11 25 hr.2.2.2.2.1 (by decide) (by decide) (by decide)) rfl rfl ?_
        | refine QCallA.of (c64 r.a 2 13 22 hr.1 (by decide) (by decide) (by decide)) rfl rfl ?_
        | (refine Side.mk ?_ ?_; · (simp; done))
        | fail
        )
    all_goals (conv => whnf)
    have hx := rx hr (KS.getD t 0) (ws.getD t 0)
    have hA := (cong2 hx (ry hr)).trans (wadd _ _)
    have hE := (congrArg (fun x : Int => IntKind.u32.wrap ((r.d : Int) + x)) hx).trans (wadd _ _)
    exact ⟨64 - (t + 1), by omega, To.gc [(0, true), (1, true), (2, true), (3, true), (4, true)] [2, 4, 5, 6, 7, 21, 22] rfl ⟨dat rfl, dat rfl, dat_ws ws, dat rfl, dat rfl, trivial⟩ ⟨t + 1, by omega, rfl, rfl, by rw [hn]; exact heq57 hA hE⟩⟩
  · repeat' ((conv => whnf); first
        | refine Branch.ofT rfl ?_
        | refine Branch.ofF rfl ?_
        | refine Branch.ofF (decide_eq_false (by omega)) ?_
        | refine Branch.dec (fun h => ?_) (fun h => ?_)
        | refine Branch.negdec (fun h => ?_) (fun h => ?_)
        | refine Branch.neg (fun h => ?_) (fun h => ?_)
        | refine Branch.mk (fun h => ?_) (fun h => ?_)
        | (refine Side.mk ?_ ?_; · first | omega | decide)
        | (refine SideD.mk ?_ ?_; · first | omega | decide)
        | refine ⟨_, Nat.lt_succ_self _, To.refl (.inl ⟨rfl, ?_⟩)⟩
        | refine LoopA.unroll _ _ _ 4 ?_
        | refine Side.mk (by simp [S8.av]) ?_
        | (refine Side.mk ?_ ?_; · (simp; done))
        | fail
        )
    all_goals (conv => whnf)
    have : t = 64 := by omega
    subst this
    rw [hr0]
    refine RetA.data (v := .agg [_, _, _, _, _, _, _, _]) rfl ⟨?_, rfl⟩
    simp only [wadd]
    rfl
theorem c57 (s : S8) (bs : List Nat) (cap : Option Nat) (hs : s.ok) (hl : bs.length = 64) (hb : ∀ x ∈ bs, x < 256) : CallA Tryd.prog 57 [.agg s.av, .dslice (bs.map B) 64 cap] Heap.nil fun v H' => v = .agg (compN s bs).av ∧ H' = Heap.nil :=
  c57a s bs (sched bs 64) cap hs (c63 bs cap hl hb) (sched_len bs 64) (sched_lt hb 64)
end Go.Proofs

namespace Go.Proofs
open Go Go.Eng
set_option maxRecDepth 100000
set_option maxHeartbeats 1000000
/-! ### The reference's words -/
theorem c61 (x n : Nat) (hx : x < 4294967296) (hn : n ∈ rots) : CallA Tryd.prog 61 [W x, I n] Heap.nil fun v H' => v = W (rotr x n) ∧ H' = Heap.nil := by
  refine callA_of ok61 (Nat.le_of_ble_eq_true rfl) ?_
  have fin : ∀ k m : Nat, k + m = 32 → AV.int .u32 (IntKind.u32.wrap (BitVec.ofInt IntKind.u32.bits ((x : Int).fdiv (2 ^ m)) ||| BitVec.ofInt IntKind.u32.bits (IntKind.u32.wrap ((x : Int) * 2 ^ k))).toNat) = W (rotr x m) := by
    intro k m hkm
    rw [wshl, wshr, wor (shr_lt hx m) (Nat.mod_lt _ (by omega)), Nat.or_comm]
    have : k = 32 - m := by omega
    subst this; rfl
  simp only [rots, List.mem_cons, List.not_mem_nil, or_false] at hn
  rcases hn with rfl | rfl | rfl | rfl | rfl | rfl | rfl | rfl | rfl | rfl
  repeat' ((conv => whnf); first
      | refine Branch.ofT rfl ?_
      | refine Branch.ofF rfl ?_
      | refine Branch.dec (fun h => ?_) (fun h => ?_)
      | refine Branch.negdec (fun h => ?_) (fun h => ?_)
      | refine Branch.neg (fun h => ?_) (fun h => ?_)
      | refine Branch.mk (fun h => ?_) (fun h => ?_)
      | (refine Side.mk ?_ ?_; · first | omega | decide)
      | (refine SideD.mk ?_ ?_; · first | omega | decide)
      | refine ⟨_, Nat.lt_succ_self _, To.refl (.inl ⟨rfl, ?_⟩)⟩
      | (refine Side.mk ?_ ?_; · (simp; done))
      | fail
      )
  all_goals (conv => whnf)
  all_goals (refine RetA.data rfl ⟨?_, rfl⟩; (try simp only [one]))
  · exact fin 30 2 rfl
  · exact fin 26 6 rfl
  · exact fin 25 7 rfl
  · exact fin 21 11 rfl
  · exact fin 19 13 rfl
  · exact fin 15 17 rfl
  · exact fin 14 18 rfl
  · exact fin 13 19 rfl
  · exact fin 10 22 rfl
  · exact fin 7 25 rfl
theorem or_add {a b i : Nat} (h : b < 2 ^ i) : a * 2 ^ i ||| b = a * 2 ^ i + b := by
  rw [Nat.mul_comm, Nat.two_pow_add_eq_or_of_lt h]
theorem wstep_eq {y b : Nat} (hy : y < 16777216) (hb : b < 256) : wstep y b = y * 256 + b := by
  unfold wstep
  rw [Nat.mod_eq_of_lt (by omega), or_add (by omega)]
theorem word_eq {a b c d : Nat} (ha : a < 256) (hb : b < 256) (hc : c < 256) (hd : d < 256) : word a b c d = a * 16777216 + b * 65536 + c * 256 + d := by
  unfold word
  rw [wstep_eq (y := 0) (by omega) ha, wstep_eq (by omega) hb, wstep_eq (by omega) hc, wstep_eq (by omega) hd]
  omega
theorem rword {a b c d : Nat} (ha : a < 256) (hb : b < 256) (hc : c < 256) (hd : d < 256) :
    IntKind.u32.wrap (BitVec.ofInt IntKind.u32.bits (IntKind.u32.wrap (BitVec.ofInt IntKind.u32.bits (IntKind.u32.wrap (BitVec.ofInt IntKind.u32.bits (IntKind.u32.wrap ((a : Int) * 2 ^ 24)) ||| BitVec.ofInt IntKind.u32.bits (IntKind.u32.wrap ((b : Int) * 2 ^ 16))).toNat) ||| BitVec.ofInt IntKind.u32.bits (IntKind.u32.wrap ((c : Int) * 2 ^ 8))).toNat) ||| BitVec.ofInt IntKind.u32.bits (d : Int)).toNat = ((word a b c d : Nat) : Int) := by
  have e1 : a * 2 ^ 24 % 4294967296 = a * 2 ^ 24 := Nat.mod_eq_of_lt (by omega)
  have e2 : b * 2 ^ 16 % 4294967296 = b * 2 ^ 16 := Nat.mod_eq_of_lt (by omega)
  have e3 : c * 2 ^ 8 % 4294967296 = c * 2 ^ 8 := Nat.mod_eq_of_lt (by omega)
  rw [wshl, wshl, wshl, e1, e2, e3, wor (by omega) (by omega), or_add (by omega), wor (by omega) (by omega),
    show a * 2 ^ 24 + b * 2 ^ 16 = (a * 256 + b) * 2 ^ 16 by omega, or_add (by omega), wor (by omega) (by omega),
    show (a * 256 + b) * 2 ^ 16 + c * 2 ^ 8 = (a * 65536 + b * 256 + c) * 2 ^ 8 by omega, or_add (by omega), word_eq ha hb hc hd]
  congr 1; omega
def L60a (bs : List Nat) (cap : Option Nat) (m : Nat) (fr : Fr) (H : Heap) : Prop := ∃ t : Nat, t ≤ 16 ∧ m = 16 - t ∧ fr = [(0, .dslice (bs.map B) 64 cap), (2, .ptr 0 0), (3, .ptr 1 0), (4, I t)] ∧ H = ⟨2, [(0, .cells (List.replicate 64 (W 0))), (1, .cells ((sched bs t).map W ++ List.replicate (64 - t) (W 0)))]⟩
def L60b (bs : List Nat) (cap : Option Nat) (m : Nat) (fr : Fr) (H : Heap) : Prop := ∃ t : Nat, 16 ≤ t ∧ t ≤ 64 ∧ m = 64 - t ∧ fr = [(0, .dslice (bs.map B) 64 cap), (2, .ptr 0 0), (3, .ptr 1 0), (5, I t)] ∧ H = ⟨2, [(0, .cells (List.replicate 64 (W 0))), (1, .cells ((sched bs t).map W ++ List.replicate (64 - t) (W 0)))]⟩
theorem ldC {bs : List Nat} {i off : Nat} {K : AV → Prop} (e : off = i) (h : i < bs.length) (hk : K (B (bs.getD i 0))) : nthK 0 ((bs.map B).drop off) K := by
  subst e
  rw [List.drop_eq_getElem_cons (by simpa using h)]
  simp only [nthK, fv_eq, List.getElem_map]
  simpa [List.getD_eq_getElem?_getD, List.getElem?_eq_getElem h] using hk
theorem c60 (bs : List Nat) (cap : Option Nat) (hl : bs.length = 64) (hb : ∀ x ∈ bs, x < 256) : CallA Tryd.prog 60 [.dslice (bs.map B) 64 cap] Heap.nil fun v H' => v = .agg ((sched bs 64).map W) ∧ H' = Heap.nil := by
  refine callA_of ok60 (Nat.le_of_ble_eq_true rfl) ?_
  have hB : ∀ i, bs.getD i 0 < 256 := getD_lt hb (by omega)
  have hB4 : ∀ i, bs.getD i 0 < 4294967296 := fun i => Nat.lt_trans (hB i) (by omega)
  repeat' ((conv => whnf); first
      | refine Branch.ofT rfl ?_
      | refine Branch.ofF rfl ?_
      | refine Branch.dec (fun h => ?_) (fun h => ?_)
      | refine Branch.negdec (fun h => ?_) (fun h => ?_)
      | refine Branch.neg (fun h => ?_) (fun h => ?_)
      | refine Branch.mk (fun h => ?_) (fun h => ?_)
      | (refine Side.mk ?_ ?_; · first | omega | decide)
      | (refine SideD.mk ?_ ?_; · first | omega | decide)
      | refine ⟨_, Nat.lt_succ_self _, To.refl (.inl ⟨rfl, ?_⟩)⟩
      | (refine Side.mk ?_ ?_; · (simp; done))
      | fail
      )
  all_goals (conv => whnf)
  refine ⟨L60a bs cap, 16, To.gc [(0, true), (1, true)] [0, 2, 3, 4] rfl ⟨noLoc_ws [] 64, noLoc_ws [] 64, trivial⟩ ⟨0, by omega, rfl, rfl, rfl⟩, ?_⟩
  rintro m fr H ⟨t, ht, rfl, rfl, rfl⟩
  have sl := sched_len bs t
  by_cases h16 : t < 16
  · repeat' ((conv => whnf); first
        | refine Branch.ofT rfl ?_
        | refine Branch.ofF rfl ?_
        | refine Branch.ofT (decide_eq_true (by omega)) ?_
        | refine Branch.dec (fun h => ?_) (fun h => ?_)
        | refine Branch.negdec (fun h => ?_) (fun h => ?_)
        | refine Branch.neg (fun h => ?_) (fun h => ?_)
        | refine Branch.mk (fun h => ?_) (fun h => ?_)
        | (refine Side.mk ?_ ?_; · first | omega | decide)
        | (refine SideD.mk ?_ ?_; · first | omega | decide)
        | refine ⟨_, Nat.lt_succ_self _, To.refl (.inl ⟨rfl, ?_⟩)⟩
        | refine ldC (i := 4 * t) (by omega) (by omega) ?_
        | refine ldC (i := 4 * t + 1) (by omega) (by omega) ?_
        | refine ldC (i := 4 * t + 2) (by omega) (by omega) ?_
        | refine ldC (i := 4 * t + 3) (by omega) (by omega) ?_
        | refine Side.mk (u32ok (hB4 _)) ?_
        | refine stV (by omega) (rword (hB _) (hB _) (hB _) (hB _)) (by omega) ?_
        | (refine Side.mk ?_ ?_; · (simp; done))
        | fail
        )
    all_goals (conv => whnf)
    have e1 : sched bs (t + 1) = sched bs t ++ [word (bs.getD (4 * t) 0) (bs.getD (4 * t + 1) 0) (bs.getD (4 * t + 2) 0) (bs.getD (4 * t + 3) 0)] := by
      show sched bs t ++ [nxt bs (sched bs t) t] = _
      unfold nxt; rw [if_pos h16]
    exact ⟨16 - (t + 1), by omega, To.gc [(0, true), (1, true)] [0, 2, 3, 4] rfl ⟨noLoc_ws [] 64, noLoc_ws _ _, trivial⟩ ⟨t + 1, by omega, rfl, rfl, by rw [e1, show 64 - (t + 1) = 64 - t - 1 by omega]; rfl⟩⟩
  · have : t = 16 := by omega
    subst this
    repeat' ((conv => whnf); first
        | refine Branch.ofT rfl ?_
        | refine Branch.ofF rfl ?_
        | refine Branch.ofF (decide_eq_false (by omega)) ?_
        | refine Branch.dec (fun h => ?_) (fun h => ?_)
        | refine Branch.negdec (fun h => ?_) (fun h => ?_)
        | refine Branch.neg (fun h => ?_) (fun h => ?_)
        | refine Branch.mk (fun h => ?_) (fun h => ?_)
        | (refine Side.mk ?_ ?_; · first | omega | decide)
        | (refine SideD.mk ?_ ?_; · first | omega | decide)
        | refine ⟨_, Nat.lt_succ_self _, To.refl (.inl ⟨rfl, ?_⟩)⟩
        | (refine Side.mk ?_ ?_; · (simp; done))
        | fail
        )
    all_goals (conv => whnf)
    refine ⟨L60b bs cap, 48, To.gc [(0, true), (1, true)] [0, 2, 3, 5] rfl ⟨noLoc_ws [] 64, noLoc_ws _ _, trivial⟩ ⟨16, by omega, by omega, rfl, rfl, rfl⟩, ?_⟩
    rintro m fr H ⟨t, ht0, ht, rfl, rfl, rfl⟩
    have hg : ∀ i, (sched bs t).getD i 0 < 4294967296 := getD_lt (sched_lt hb t) (by omega)
    have g15 := hg (t - 15)
    have g2 := hg (t - 2)
    have sl := sched_len bs t
    by_cases h64 : t < 64
    · have e : nxt bs (sched bs t) t = ((((sched bs t).getD (t - 16) 0 + sg0 ((sched bs t).getD (t - 15) 0)) % 4294967296 + (sched bs t).getD (t - 7) 0) % 4294967296 + sg1 ((sched bs t).getD (t - 2) 0)) % 4294967296 := by unfold nxt; rw [if_neg (by omega)]
      repeat' ((conv => whnf); first
          | refine Branch.ofT rfl ?_
          | refine Branch.ofF rfl ?_
          | refine Branch.ofT (decide_eq_true (by omega)) ?_
          | refine Branch.dec (fun h => ?_) (fun h => ?_)
          | refine Branch.negdec (fun h => ?_) (fun h => ?_)
          | refine Branch.neg (fun h => ?_) (fun h => ?_)
          | refine Branch.mk (fun h => ?_) (fun h => ?_)
          | (refine Side.mk ?_ ?_; · first | omega | decide)
          | (refine SideD.mk ?_ ?_; · first | omega | decide)
          | refine ⟨_, Nat.lt_succ_self _, To.refl (.inl ⟨rfl, ?_⟩)⟩
          | refine ldI (i := t - 15) (by omega) (by rw [sched_len]; omega) ?_
          | refine ldI (i := t - 2) (by omega) (by rw [sched_len]; omega) ?_
          | refine ldI (i := t - 16) (by omega) (by rw [sched_len]; omega) ?_
          | refine ldI (i := t - 7) (by omega) (by rw [sched_len]; omega) ?_
          | refine QCallA.of (c61 _ 7 (by assumption) (by decide)) rfl rfl ?_
          | refine QCallA.of (c61 _ 18 (by assumption) (by decide)) rfl rfl ?_
          | refine QCallA.of (c61 _ 17 (by assumption) (by decide)) rfl rfl ?_
          | refine QCallA.of (c61 _ 19 (by assumption) (by decide)) rfl rfl ?_
          | refine stV (by omega) ((rnxt g15 g2).trans (congrArg Nat.cast e.symm)) (by omega) ?_
          | (refine Side.mk ?_ ?_; · (simp; done))
          | fail
          )
      all_goals (conv => whnf)
      exact ⟨64 - (t + 1), by omega, To.gc [(0, true), (1, true)] [0, 2, 3, 5] rfl ⟨noLoc_ws [] 64, noLoc_ws _ _, trivial⟩ ⟨t + 1, by omega, by omega, rfl, rfl, by rw [show 64 - (t + 1) = 64 - t - 1 by omega]; rfl⟩⟩
    · repeat' ((conv => whnf); first
          | refine Branch.ofT rfl ?_
          | refine Branch.ofF rfl ?_
          | refine Branch.ofF (decide_eq_false (by omega)) ?_
          | refine Branch.dec (fun h => ?_) (fun h => ?_)
          | refine Branch.negdec (fun h => ?_) (fun h => ?_)
          | refine Branch.neg (fun h => ?_) (fun h => ?_)
          | refine Branch.mk (fun h => ?_) (fun h => ?_)
          | (refine Side.mk ?_ ?_; · first | omega | decide)
          | (refine SideD.mk ?_ ?_; · first | omega | decide)
          | refine ⟨_, Nat.lt_succ_self _, To.refl (.inl ⟨rfl, ?_⟩)⟩
          | refine tkW (by omega) ?_
          | refine tkW' (by omega) ?_
          | refine condT (by simp [sl]; omega) ?_
          | refine lputA (by simp; omega) (scal_ws _) ?_
          | (refine Side.mk ?_ ?_; · (simp; done))
          | fail
          )
      all_goals (conv => whnf)
      have : t = 64 := by omega
      subst this
      generalize sched bs 64 = ws
      exact RetA.data (v := .agg (ws.map W)) (noLocL_ws ws) ⟨rfl, rfl⟩
end Go.Proofs

namespace Go.Proofs
open Go Go.Eng
set_option maxRecDepth 100000
set_option maxHeartbeats 1000000
/-! ### Bytes and texts -/
def txt (t : List Nat) : ByteArray := ⟨(t.map UInt8.ofNat).toArray⟩
theorem txt_size (t : List Nat) : (txt t).size = t.length := by simp [txt, ByteArray.size]
theorem txt_nil : txt [] = ⟨#[]⟩ := rfl
theorem txt_ne {t : List Nat} (h : t ≠ []) : txt t ≠ ⟨#[]⟩ := by
  intro e
  have := txt_size t
  rw [e] at this
  exact h (List.eq_nil_of_length_eq_zero this.symm)
theorem txt_cells {t : List Nat} (h : ∀ x ∈ t, x < 256) : strCells (txt t) = t.map B := by
  unfold strCells txt
  simp only [List.map_map]
  refine List.map_congr_left fun x hx => ?_
  have : (UInt8.ofNat x).toNat = x := by rw [UInt8.toNat_ofNat']; exact Nat.mod_eq_of_lt (h x hx)
  simp only [Function.comp, this]
theorem txt_bytes (t : List Nat) : bytesOf (t.map B) = some (t.map fun n : Nat => (n : Int)) := by
  induction t with
  | nil => rfl
  | cons x r ih => simp only [List.map_cons, bytesOf, ih]
theorem toBytes_txt (t : List Nat) : toBytes (t.map fun n : Nat => (n : Int)) = txt t := by
  have key : ∀ (t : List Nat) (b : ByteArray), (t.map fun n : Nat => (n : Int)).foldl (fun r n => r.push (UInt8.ofNat n.toNat)) b = ⟨b.data ++ (t.map UInt8.ofNat).toArray⟩ := by
    intro t
    induction t with
    | nil => intro b; simp
    | cons x r ih =>
      intro b
      rw [List.map_cons, List.foldl_cons, ih]
      simp [ByteArray.push, ← Array.append_assoc]
  unfold toBytes
  rw [key]
  show ByteArray.mk (#[] ++ (t.map UInt8.ofNat).toArray) = _
  rw [Array.empty_append]; rfl
theorem txt_drop {t : List Nat} {k n : Nat} (h : n = t.length) (hk : k ≤ n) : (txt t).extract k n = txt (t.drop k) := by
  subst h
  have : (txt t).extract k t.length = ⟨(txt t).data.extract k t.length⟩ := by
    simp only [ByteArray.extract, ByteArray.copySlice]
    simp [show k + (t.length - k) = t.length by omega]
  rw [this]
  simp [txt, List.take_of_length_le]
theorem bres {t : List Nat} {cs : List AV} {K : ByteArray → Prop} (e : cs = t.map B) (h : K (txt t)) : BRes (bytesOf cs) K := by
  subst e; exact ⟨_, txt_bytes t, by rw [toBytes_txt]; exact h⟩
theorem dat_bs (bs : List Nat) : ∀ c ∈ bs.map B, noLoc c = true := by
  intro c h; obtain ⟨x, _, rfl⟩ := List.mem_map.1 h; rfl
theorem scal_bs (bs : List Nat) : ∀ c ∈ bs.map B, scal c = true := by
  intro c h; obtain ⟨x, _, rfl⟩ := List.mem_map.1 h; rfl
theorem noLocL_bs : ∀ bs : List Nat, noLocL (bs.map B) = true
  | [] => rfl
  | x :: r => by simp [noLocL, noLoc, noLocL_bs r]
theorem wu8 (n : Int) : IntKind.u8.wrap n = n % 256 := by
  have : IntKind.u8.wrap n = if IntKind.u8.signed then (let r := n % 2 ^ IntKind.u8.bits; if r < 2 ^ (IntKind.u8.bits - 1) then r else r - 2 ^ IntKind.u8.bits) else n % 2 ^ IntKind.u8.bits := by
    first | rfl | (simp [IntKind.wrap])
  rw [this]; rfl
/-! ### The reference's padded message, of 140 bytes -/
def padN (m : List Nat) : List Nat := m ++ 128 :: (List.replicate 43 0 ++ [0, 0, 0, 0, 0, 0, 4, 96])
def L59 (m : List Nat) (cap : Option Nat) (k : Nat) (fr : Fr) (H : Heap) : Prop := ∃ j : Nat, j ≤ 43 ∧ k = 43 - j ∧ fr = [(0, .dslice (m.map B) 140 cap), (3, .slice 0 0 (141 + j) none 1)] ∧ H = ⟨1, [(0, .cells ((m ++ 128 :: List.replicate j 0).map B))]⟩
theorem appB {a : List AV} {n : Nat} {ds : List AV} (h : a.length = n) (hf : n ≤ 100000) (hs : ∀ c ∈ ds, scal c = true) {m : Nat} (hm : m ≤ 100000) : 1 = 1 ∧ 0 = 0 ∧ a.length = n * 1 ∧ fits (n + m) 1 ∧ ∀ c ∈ ds, scal c = true :=
  ⟨rfl, rfl, by omega, by unfold fits; omega, hs⟩
theorem tkm {m : List Nat} {n : Nat} (h : m.length = n) : List.take (n * 1) (m.map B) = m.map B := List.take_of_length_le (by simp; omega)
theorem c59 (m : List Nat) (cap : Option Nat) (hm : m.length = 140) : CallA Tryd.prog 59 [.dslice (m.map B) 140 cap] Heap.nil fun v H' => v = .dslice ((padN m).map B) 192 none ∧ H' = Heap.nil := by
  refine callA_of ok59 (Nat.le_of_ble_eq_true rfl) ?_
  have e0 := tkm hm
  repeat' ((conv => whnf); first
      | refine Branch.ofT rfl ?_
      | refine Branch.ofF rfl ?_
      | refine Branch.dec (fun h => ?_) (fun h => ?_)
      | refine Branch.negdec (fun h => ?_) (fun h => ?_)
      | refine Branch.neg (fun h => ?_) (fun h => ?_)
      | refine Branch.mk (fun h => ?_) (fun h => ?_)
      | (refine Side.mk ?_ ?_; · first | omega | decide)
      | (refine SideD.mk ?_ ?_; · first | omega | decide)
      | refine ⟨_, Nat.lt_succ_self _, To.refl (.inl ⟨rfl, ?_⟩)⟩
      | refine Side.mk (by simp; omega) ?_
      | refine Side.mk (appB (by rfl) (by omega) (by rw [e0]; exact scal_bs m) (by omega)) ?_
      | refine Side.mk (appB (by rw [e0]; simp [rep]; omega) (by omega) (by simp [scal]) (by omega)) ?_
      | (refine Side.mk ?_ ?_; · (simp; done))
      | fail
      )
  all_goals (conv => whnf)
  have hd : ∀ j, ∀ c ∈ (m ++ 128 :: List.replicate j 0).map B, noLoc c = true := fun j => dat_bs _
  have h1 : rep [AV.int IntKind.u8 0] 0 ++ List.take (140 * 1) (m.map B) ++ [AV.int IntKind.u8 128] = (m ++ 128 :: List.replicate 0 0).map B := by rw [e0]; simp [rep]
  refine ⟨L59 m cap, 43, To.gc [(2, true)] [0, 3] rfl ⟨fun c hc => hd 0 c (by rw [← h1]; exact hc), trivial⟩ ⟨0, by omega, rfl, rfl, by rw [← h1]; rfl⟩, ?_⟩
  rintro k fr H ⟨j, hj, rfl, rfl, rfl⟩
  by_cases hj3 : j < 43
  · have h2 : (m ++ 128 :: List.replicate j 0).map B ++ [AV.int IntKind.u8 0] = (m ++ 128 :: List.replicate (j + 1) 0).map B := by rw [List.replicate_succ']; simp
    repeat' ((conv => whnf); first
        | refine Branch.ofT rfl ?_
        | refine Branch.ofF rfl ?_
        | refine Branch.negdec (fun _ => ?_) (fun hn => absurd hn (by omega))
        | refine Branch.dec (fun h => ?_) (fun h => ?_)
        | refine Branch.negdec (fun h => ?_) (fun h => ?_)
        | refine Branch.neg (fun h => ?_) (fun h => ?_)
        | refine Branch.mk (fun h => ?_) (fun h => ?_)
        | (refine Side.mk ?_ ?_; · first | omega | decide)
        | (refine SideD.mk ?_ ?_; · first | omega | decide)
        | refine ⟨_, Nat.lt_succ_self _, To.refl (.inl ⟨rfl, ?_⟩)⟩
        | refine Side.mk (appB (by simp; omega) (by omega) (by simp [scal]) (by omega)) ?_
        | (refine Side.mk ?_ ?_; · (simp; done))
        | fail
        )
    all_goals (conv => whnf)
    exact ⟨43 - (j + 1), by omega, To.gc [(1, true)] [0, 3] rfl ⟨fun c hc => hd (j + 1) c (by rw [← h2]; exact hc), trivial⟩ ⟨j + 1, by omega, rfl, rfl, by rw [← h2]; rfl⟩⟩
  · have : j = 43 := by omega
    subst this
    have h3 : (m ++ 128 :: List.replicate 43 0).map B ++ [AV.int IntKind.u8 0] ++ [AV.int IntKind.u8 0] ++ [AV.int IntKind.u8 0] ++ [AV.int IntKind.u8 0] ++ [AV.int IntKind.u8 0] ++ [AV.int IntKind.u8 0] ++ [AV.int IntKind.u8 4] ++ [AV.int IntKind.u8 96] = (padN m).map B := by
      unfold padN; simp
    generalize hcs : (m ++ 128 :: List.replicate 43 0).map B = cs at h3 hd
    have hcl : cs.length = 184 := by rw [← hcs]; simp [hm]
    repeat' ((conv => whnf); first
        | refine Branch.ofT rfl ?_
        | refine Branch.ofF rfl ?_
        | refine Branch.negdec (fun hn => absurd (by omega) hn) (fun _ => ?_)
        | refine Branch.dec (fun h => ?_) (fun h => ?_)
        | refine Branch.negdec (fun h => ?_) (fun h => ?_)
        | refine Branch.neg (fun h => ?_) (fun h => ?_)
        | refine Branch.mk (fun h => ?_) (fun h => ?_)
        | (refine Side.mk ?_ ?_; · first | omega | decide)
        | (refine SideD.mk ?_ ?_; · first | omega | decide)
        | refine ⟨_, Nat.lt_succ_self _, To.refl (.inl ⟨rfl, ?_⟩)⟩
        | refine LoopA.unroll _ _ _ 9 ?_
        | refine Side.mk (appB (by simp [hcl]) (by omega) (by simp [scal]) (by omega)) ?_
        | (refine Side.mk ?_ ?_; · (simp; done))
        | fail
        )
    all_goals (conv => whnf)
    refine RetA.pub 8 (ds := (padN m).map B) (Eq.trans (by rfl) (congrArg AB.cells h3)) (dat_bs _) ?_
    refine RetA.data rfl ⟨?_, rfl⟩
    show AV.dslice ((((padN m).map B).drop 0).take (192 * 1)) 192 none = _
    rw [List.drop_zero, List.take_of_length_le (by simp [padN, hm])]
end Go.Proofs

namespace Go.Proofs
open Go Go.Eng
set_option maxRecDepth 100000
set_option maxHeartbeats 4000000
/-! ### The reference's hash, of 140 bytes -/
def iv : S8 := ⟨1779033703, 3144134277, 1013904242, 2773480762, 1359893119, 2600822924, 528734635, 1541459225⟩
def chunk (m : List Nat) (k : Nat) : List Nat := (m.drop (64 * k)).take 64
def absorb (s : S8) (m : List Nat) : Nat → S8
  | 0 => s
  | k + 1 => compN (absorb s m k) (chunk m k)
theorem comp_ok {s : S8} (h : s.ok) (bs : List Nat) : (compN s bs).ok := by
  unfold compN S8.add S8.ok
  exact ⟨Nat.mod_lt _ (by omega), Nat.mod_lt _ (by omega), Nat.mod_lt _ (by omega), Nat.mod_lt _ (by omega), Nat.mod_lt _ (by omega), Nat.mod_lt _ (by omega), Nat.mod_lt _ (by omega), Nat.mod_lt _ (by omega)⟩
theorem iv_ok : iv.ok := by unfold iv S8.ok; decide
theorem absorb_ok {s : S8} (h : s.ok) (m : List Nat) : ∀ k, (absorb s m k).ok
  | 0 => h
  | k + 1 => comp_ok (absorb_ok h m k) _
def out4 (x : Nat) : List Nat := [x / 2 ^ 24 % 256, x / 2 ^ 16 % 256, x / 2 ^ 8 % 256, x / 2 ^ 0 % 256]
def outN (s : S8) : List Nat := out4 s.a ++ out4 s.b ++ out4 s.c ++ out4 s.d ++ out4 s.e ++ out4 s.f ++ out4 s.g ++ out4 s.h
def z32 : List AV := List.replicate 32 (B 0)
theorem bN' {e : Nat} (h : e < 4294967296) : bX (e : Int) 4294967295 = ((4294967295 ^^^ e : Nat) : Int) := by
  have : (4294967295 : Int) = ((4294967295 : Nat) : Int) := rfl
  rw [this, bX_eq h (by omega), Nat.xor_comm]
theorem mixX {x i j k : Nat} (hx : x < 4294967296) : bX (bX ((rotr x i : Nat) : Int) ((rotr x j : Nat) : Int)) ((rotr x k : Nat) : Int) = ((mixN x i j k : Nat) : Int) := by
  rw [bX_eq (rotr_lt hx i) (rotr_lt hx j), bX_eq (xor_lt (rotr_lt hx i) (rotr_lt hx j)) (rotr_lt hx k)]; rfl
theorem rx' {s : S8} (hs : s.ok) (k w : Nat) : IntKind.u32.wrap (IntKind.u32.wrap (IntKind.u32.wrap (IntKind.u32.wrap ((s.h : Int) + bX (bX ((rotr s.e 6 : Nat) : Int) ((rotr s.e 11 : Nat) : Int)) ((rotr s.e 25 : Nat) : Int)) + bX (bA s.e s.f) (bA (bX (s.e : Int) 4294967295) s.g)) + (k : Int)) + (w : Int)) = ((t1N s k w : Nat) : Int) := by
  obtain ⟨_, _, _, _, he, hf, hg, _⟩ := hs
  rw [mixX he, bN' he, bA_eq he hf, bA_eq (xor_lt (by omega) he) hg, bX_eq (and_lt hf) (and_lt hg), wadd, wadd, wadd, wadd]; rfl
theorem ry' {s : S8} (hs : s.ok) : IntKind.u32.wrap (bX (bX ((rotr s.a 2 : Nat) : Int) ((rotr s.a 13 : Nat) : Int)) ((rotr s.a 22 : Nat) : Int) + bX (bX (bA s.a s.b) (bA s.a s.c)) (bA s.b s.c)) = ((t2N s : Nat) : Int) := by
  obtain ⟨ha, hb, hc, _⟩ := hs
  rw [mixX ha, bA_eq ha hb, bA_eq ha hc, bA_eq hb hc, bX_eq (and_lt hb) (and_lt hc), bX_eq (xor_lt (and_lt hb) (and_lt hc)) (and_lt hc), wadd]; rfl
def L55a (P : List Nat) (A : Nat → S8) (m : Nat) (fr : Fr) (H : Heap) : Prop := ∃ k : Nat, k ≤ 3 ∧ m = 3 - k ∧ fr = [(2, .ptr 0 0), (3, .ptr 1 0), (4, .dslice (P.map B) 192 none), (5, I (64 * k : Nat))] ∧ H = ⟨2, [(0, .cells z32), (1, .cells (A k).av)]⟩
def L55b (P : List Nat) (k : Nat) (ws : List Nat) (s : S8) (m : Nat) (fr : Fr) (H : Heap) : Prop := ∃ t : Nat, t ≤ 64 ∧ m = 64 - t ∧ fr = [(2, .ptr 0 0), (3, .ptr 1 0), (4, .dslice (P.map B) 192 none), (5, I (64 * k : Nat)), (6, .ptr 2 0), (7, .ptr 3 0), (8, I t)] ∧ H = ⟨4, [(0, .cells z32), (1, .cells s.av), (2, .cells (ws.map W)), (3, .cells (rounds ws s t).av)]⟩
attribute [local irreducible] sched rounds t1N t2N mixN compN
theorem heq55 {C0 C1 C2 : List AV} {A E A' E' : Int} {b c d f g h : AV} (hA : A = A') (hE : E = E') : (⟨4, [(0, .cells C0), (1, .cells C1), (2, .cells C2), (3, .cells [.int .u32 A, b, c, d, .int .u32 E, f, g, h])]⟩ : Heap) = ⟨4, [(0, .cells C0), (1, .cells C1), (2, .cells C2), (3, .cells [.int .u32 A', b, c, d, .int .u32 E', f, g, h])]⟩ := by
  subst hA hE; rfl
theorem heqA {C0 : List AV} (s v : S8) : (⟨2, [(0, .cells C0), (1, .cells [.int .u32 (IntKind.u32.wrap ((s.a : Int) + v.a)), .int .u32 (IntKind.u32.wrap ((s.b : Int) + v.b)), .int .u32 (IntKind.u32.wrap ((s.c : Int) + v.c)), .int .u32 (IntKind.u32.wrap ((s.d : Int) + v.d)), .int .u32 (IntKind.u32.wrap ((s.e : Int) + v.e)), .int .u32 (IntKind.u32.wrap ((s.f : Int) + v.f)), .int .u32 (IntKind.u32.wrap ((s.g : Int) + v.g)), .int .u32 (IntKind.u32.wrap ((s.h : Int) + v.h))])]⟩ : Heap) = ⟨2, [(0, .cells C0), (1, .cells (s.add v).av)]⟩ := by
  simp only [wadd]; rfl
theorem wb (x j : Nat) : IntKind.u8.wrap ((x : Int).fdiv (2 ^ j)) = ((x / 2 ^ j % 256 : Nat) : Int) := by
  rw [wshr, wu8]; omega
theorem out_eq (s : S8) : AV.agg [.int .u8 (IntKind.u8.wrap ((s.a : Int).fdiv (2 ^ 24))), .int .u8 (IntKind.u8.wrap ((s.a : Int).fdiv (2 ^ 16))), .int .u8 (IntKind.u8.wrap ((s.a : Int).fdiv (2 ^ 8))), .int .u8 (IntKind.u8.wrap ((s.a : Int).fdiv (2 ^ 0))), .int .u8 (IntKind.u8.wrap ((s.b : Int).fdiv (2 ^ 24))), .int .u8 (IntKind.u8.wrap ((s.b : Int).fdiv (2 ^ 16))), .int .u8 (IntKind.u8.wrap ((s.b : Int).fdiv (2 ^ 8))), .int .u8 (IntKind.u8.wrap ((s.b : Int).fdiv (2 ^ 0))), .int .u8 (IntKind.u8.wrap ((s.c : Int).fdiv (2 ^ 24))), .int .u8 (IntKind.u8.wrap ((s.c : Int).fdiv (2 ^ 16))), .int .u8 (IntKind.u8.wrap ((s.c : Int).fdiv (2 ^ 8))), .int .u8 (IntKind.u8.wrap ((s.c : Int).fdiv (2 ^ 0))), .int .u8 (IntKind.u8.wrap ((s.d : Int).fdiv (2 ^ 24))), .int .u8 (IntKind.u8.wrap ((s.d : Int).fdiv (2 ^ 16))), .int .u8 (IntKind.u8.wrap ((s.d : Int).fdiv (2 ^ 8))), .int .u8 (IntKind.u8.wrap ((s.d : Int).fdiv (2 ^ 0))), .int .u8 (IntKind.u8.wrap ((s.e : Int).fdiv (2 ^ 24))), .int .u8 (IntKind.u8.wrap ((s.e : Int).fdiv (2 ^ 16))), .int .u8 (IntKind.u8.wrap ((s.e : Int).fdiv (2 ^ 8))), .int .u8 (IntKind.u8.wrap ((s.e : Int).fdiv (2 ^ 0))), .int .u8 (IntKind.u8.wrap ((s.f : Int).fdiv (2 ^ 24))), .int .u8 (IntKind.u8.wrap ((s.f : Int).fdiv (2 ^ 16))), .int .u8 (IntKind.u8.wrap ((s.f : Int).fdiv (2 ^ 8))), .int .u8 (IntKind.u8.wrap ((s.f : Int).fdiv (2 ^ 0))), .int .u8 (IntKind.u8.wrap ((s.g : Int).fdiv (2 ^ 24))), .int .u8 (IntKind.u8.wrap ((s.g : Int).fdiv (2 ^ 16))), .int .u8 (IntKind.u8.wrap ((s.g : Int).fdiv (2 ^ 8))), .int .u8 (IntKind.u8.wrap ((s.g : Int).fdiv (2 ^ 0))), .int .u8 (IntKind.u8.wrap ((s.h : Int).fdiv (2 ^ 24))), .int .u8 (IntKind.u8.wrap ((s.h : Int).fdiv (2 ^ 16))), .int .u8 (IntKind.u8.wrap ((s.h : Int).fdiv (2 ^ 8))), .int .u8 (IntKind.u8.wrap ((s.h : Int).fdiv (2 ^ 0)))] = .agg ((outN s).map B) := by
  simp only [wb]; rfl
theorem c55a (m : List Nat) (cap : Option Nat) (P : List Nat) (A : Nat → S8) (S : Nat → List Nat)
    (h59 : CallA Tryd.prog 59 [.dslice (m.map B) 140 cap] Heap.nil fun v H' => v = .dslice (P.map B) 192 none ∧ H' = Heap.nil)
    (h60 : ∀ k, k < 3 → ∀ cs len cap, cs = (chunk P k).map B → len = 64 → CallA Tryd.prog 60 [.dslice cs len cap] Heap.nil fun v H' => v = .agg ((S k).map W) ∧ H' = Heap.nil)
    (hP : P.length = 192) (hS : ∀ k, (S k).length = 64) (hA0 : A 0 = iv) (hA : ∀ k, A (k + 1) = (A k).add (rounds (S k) (A k) 64)) (hok : ∀ k, (A k).ok) :
    CallA Tryd.prog 55 [.dslice (m.map B) 140 cap] Heap.nil fun v H' => v = .agg ((outN (A 3)).map B) ∧ H' = Heap.nil := by
  refine callA_of ok55 (Nat.le_of_ble_eq_true rfl) ?_
  repeat' ((conv => whnf); first
      | refine Branch.ofT rfl ?_
      | refine Branch.ofF rfl ?_
      | refine Branch.dec (fun h => ?_) (fun h => ?_)
      | refine Branch.negdec (fun h => ?_) (fun h => ?_)
      | refine Branch.neg (fun h => ?_) (fun h => ?_)
      | refine Branch.mk (fun h => ?_) (fun h => ?_)
      | (refine Side.mk ?_ ?_; · first | omega | decide)
      | (refine SideD.mk ?_ ?_; · first | omega | decide)
      | refine ⟨_, Nat.lt_succ_self _, To.refl (.inl ⟨rfl, ?_⟩)⟩
      | refine CallA.pure h59 rfl (by simp [noLoc, noLocL_bs]) ?_
      | (refine Side.mk ?_ ?_; · (simp; done))
      | fail
      )
  all_goals (conv => whnf)
  refine ⟨L55a P A, 3, To.gc [(0, true), (1, true)] [2, 3, 4, 5] rfl ⟨dat rfl, dat rfl, trivial⟩ ⟨0, by omega, rfl, rfl, by rw [hA0]; rfl⟩, ?_⟩
  rintro n fr H ⟨k, hk, rfl, rfl, rfl⟩
  have hs := hok k
  by_cases hk3 : k < 3
  · have ha := hA k
    have wl := hS k
    have h60 := h60 k hk3
    have hch : List.take ((((64 * k : Nat) : Int) + 64 - ((64 * k : Nat) : Int)).toNat * 1) (List.drop (((64 * k : Nat) : Int).toNat * 1) (P.map B)) = (chunk P k).map B := by
      unfold chunk; rw [List.map_take, List.map_drop, show (((64 * k : Nat) : Int) + 64 - ((64 * k : Nat) : Int)).toNat * 1 = 64 by omega, show ((64 * k : Nat) : Int).toNat * 1 = 64 * k by omega]
    generalize S k = ws at *
    generalize A k = s at *
    repeat' ((conv => whnf); first
        | refine Branch.ofT rfl ?_
        | refine Branch.ofF rfl ?_
        | refine Branch.ofT (decide_eq_true (by omega)) ?_
        | refine Branch.dec (fun h => ?_) (fun h => ?_)
        | refine Branch.negdec (fun h => ?_) (fun h => ?_)
        | refine Branch.neg (fun h => ?_) (fun h => ?_)
        | refine Branch.mk (fun h => ?_) (fun h => ?_)
        | (refine Side.mk ?_ ?_; · first | omega | decide)
        | (refine SideD.mk ?_ ?_; · first | omega | decide)
        | refine ⟨_, Nat.lt_succ_self _, To.refl (.inl ⟨rfl, ?_⟩)⟩
        | refine CallA.pure (h60 _ _ _ hch (by omega)) rfl (noLocL_ws ws) ?_
        | refine condT (by simp [wl]) ?_
        | refine lputA (by simp [wl]) (scal_ws _) ?_
        | (refine Side.mk ?_ ?_; · (simp; done))
        | fail
        )
    all_goals (conv => whnf)
    refine ⟨L55b P k ws s, 64, To.gc [(0, true), (1, true), (2, true), (3, true)] [2, 3, 4, 5, 6, 7, 8] rfl ⟨dat rfl, dat rfl, dat_ws ws, dat rfl, trivial⟩ ⟨0, by omega, rfl, rfl, by rw [rounds_zero]; rfl⟩, ?_⟩
    rintro n fr H ⟨t, ht, rfl, rfl, rfl⟩
    have hr := rounds_ok (ws := ws) hs t
    have hn : rounds ws s (t + 1) = (rounds ws s t).round (KS.getD t 0) (ws.getD t 0) := rounds_succ ws s t
    generalize hr0 : rounds ws s t = r at hr hn
    by_cases h64 : t < 64
    · repeat' ((conv => whnf); first
          | refine Branch.ofT rfl ?_
          | refine Branch.ofF rfl ?_
          | refine Branch.ofT (decide_eq_true (by omega)) ?_
          | refine Branch.dec (fun h => ?_) (fun h => ?_)
          | refine Branch.negdec (fun h => ?_) (fun h => ?_)
          | refine Branch.neg (fun h => ?_) (fun h => ?_)
          | refine Branch.mk (fun h => ?_) (fun h => ?_)
          | (refine Side.mk ?_ ?_; · first | omega | decide)
          | (refine SideD.mk ?_ ?_; · first | omega | decide)
          | refine ⟨_, Nat.lt_succ_self _, To.refl (.inl ⟨rfl, ?_⟩)⟩
          | refine ldW (ws := KS) (i := t) (by omega) (by rw [ks_len]; omega) ?_
          | refine ldW (ws := ws) (i := t) (by omega) (by omega) ?_
          | refine QCallA.of (c61 r.e 6 hr.2.2.2.2.1 (by decide)) rfl rfl ?_
          | refine QCallA.of (c61 r.e 11 hr.2.2.2.2.1 (by decide)) rfl rfl ?_
          | refine QCallA.of (c61 r.e 25 hr.2.2.2.2.1 (by decide)) rfl rfl ?_
          | refine QCallA.of (c61 r.a 2 hr.1 (by decide)) rfl rfl ?_
          | refine QCallA.of (c61 r.a 13 hr.1 (by decide)) rfl rfl ?_
          | refine QCallA.of (c61 r.a 22 hr.1 (by decide)) rfl rfl ?_
          | (refine Side.mk ?_ ?_; · (simp; done))
          | fail
          )
      all_goals (conv => whnf)
      have hx := rx' hr (KS.getD t 0) (ws.getD t 0)
      have hA := (cong2 hx (ry' hr)).trans (wadd _ _)
      have hE := (congrArg (fun x : Int => IntKind.u32.wrap ((r.d : Int) + x)) hx).trans (wadd _ _)
      exact ⟨64 - (t + 1), by omega, To.gc [(0, true), (1, true), (2, true), (3, true)] [2, 3, 4, 5, 6, 7, 8] rfl ⟨dat rfl, dat rfl, dat_ws ws, dat rfl, trivial⟩ ⟨t + 1, by omega, rfl, rfl, by rw [hn]; exact heq55 hA hE⟩⟩
    · repeat' ((conv => whnf); first
          | refine Branch.ofT rfl ?_
          | refine Branch.ofF rfl ?_
          | refine Branch.ofF (decide_eq_false (by omega)) ?_
          | refine Branch.dec (fun h => ?_) (fun h => ?_)
          | refine Branch.negdec (fun h => ?_) (fun h => ?_)
          | refine Branch.neg (fun h => ?_) (fun h => ?_)
          | refine Branch.mk (fun h => ?_) (fun h => ?_)
          | (refine Side.mk ?_ ?_; · first | omega | decide)
          | (refine SideD.mk ?_ ?_; · first | omega | decide)
          | refine ⟨_, Nat.lt_succ_self _, To.refl (.inl ⟨rfl, ?_⟩)⟩
          | refine LoopA.unroll _ _ _ 9 ?_
          | (refine Side.mk ?_ ?_; · (simp; done))
          | fail
          )
      all_goals (conv => whnf)
      have : t = 64 := by omega
      subst this
      rw [hr0] at ha
      have e5 : ((64 * k : Nat) : Int) + 64 = ((64 * (k + 1) : Nat) : Int) := by omega
      exact ⟨3 - (k + 1), by omega, To.gc [(0, true), (1, true)] [2, 3, 4, 5] rfl ⟨dat rfl, dat rfl, trivial⟩ ⟨k + 1, by omega, rfl, by rw [← e5]; rfl, by rw [ha]; exact heqA s r⟩⟩
  · have hk4 : k = 3 := by omega
    subst hk4
    generalize A 3 = s at *
    repeat' ((conv => whnf); first
        | refine Branch.ofT rfl ?_
        | refine Branch.ofF rfl ?_
        | refine Branch.ofF (decide_eq_false (by omega)) ?_
        | refine Branch.dec (fun h => ?_) (fun h => ?_)
        | refine Branch.negdec (fun h => ?_) (fun h => ?_)
        | refine Branch.neg (fun h => ?_) (fun h => ?_)
        | refine Branch.mk (fun h => ?_) (fun h => ?_)
        | (refine Side.mk ?_ ?_; · first | omega | decide)
        | (refine SideD.mk ?_ ?_; · first | omega | decide)
        | refine ⟨_, Nat.lt_succ_self _, To.refl (.inl ⟨rfl, ?_⟩)⟩
        | refine LoopA.unroll _ _ _ 33 ?_
        | (refine Side.mk ?_ ?_; · (simp; done))
        | fail
        )
    all_goals (conv => whnf)
    exact RetA.data rfl ⟨out_eq s, rfl⟩
theorem c55 (m : List Nat) (cap : Option Nat) (hm : m.length = 140) (hb : ∀ x ∈ m, x < 256) : CallA Tryd.prog 55 [.dslice (m.map B) 140 cap] Heap.nil fun v H' => v = .agg ((outN (absorb iv (padN m) 3)).map B) ∧ H' = Heap.nil := by
  have hP : (padN m).length = 192 := by simp [padN, hm]
  have hPb : ∀ x ∈ padN m, x < 256 := by
    intro x hx
    simp only [padN, List.mem_append, List.mem_cons, List.mem_replicate, List.not_mem_nil, or_false] at hx
    rcases hx with h | h | h | h
    · exact hb x h
    all_goals omega
  refine c55a m cap (padN m) (absorb iv (padN m)) (fun k => sched (chunk (padN m) k) 64) (c59 m cap hm) ?_ hP (fun k => sched_len _ 64) rfl (fun k => by rw [absorb]; unfold compN; rfl) (absorb_ok iv_ok _)
  rintro k hk _ _ cap rfl rfl
  have hcl : (chunk (padN m) k).length = 64 := by simp [chunk, hP]; omega
  exact c60 _ cap hcl fun x hx => hPb x (List.mem_of_mem_drop (List.mem_of_mem_take hx))
end Go.Proofs

namespace Go.Proofs
open Go Go.Eng
set_option maxRecDepth 100000
set_option maxHeartbeats 4000000
theorem lentOk_nl (η : Nat → AB) : ∀ n, lentOk [] η n = true
  | 0 => rfl
  | n + 1 => by
    rw [lentOk_succ]
    split
    · exact lentOk_nl η n
    · exact lentOk_nl η n
theorem _root_.Go.Eng.CallA.own {P : Program} {f : FuncId} {args : List AV} {cs : List AV} {n : Nat} (h : CallA P f args Heap.nil fun v H' => v = .slice 0 0 n none 1 ∧ H' = ⟨1, [(0, .cells cs)]⟩) (ha : renL (posOf []) args = args) (hc : noLocL cs = true) {H : Heap} {K : AV → Heap → Prop} (hk : K (.slice H.nx 0 n none 1) ⟨H.nx + 1, (H.nx, .cells cs) :: H.bs⟩) : CallA P f args H K := by
  refine CallA.lend [] (by rw [ha]; exact h) rfl trivial rfl ?_ (lentOk_nl _ _)
  rintro c H' ⟨rfl, rfl⟩
  refine ⟨trivial, ?_⟩
  have e : lendH [] H ⟨1, [(0, .cells cs)]⟩ = ⟨H.nx + 1, (H.nx, .cells (renL (fun j => some (backK [] H.nx j)) cs)) :: H.bs⟩ := rfl
  rw [e, renL_data _ _ hc]
  exact hk
/-! ### The reference's digest of a page in a slot -/
theorem c62_8 : CallA Tryd.prog 62 [I (8 : Nat)] Heap.nil fun v H' => v = .slice 0 0 1 none 1 ∧ H' = ⟨1, [(0, .cells ([16].map B))]⟩ := by
  refine callA_of ok62 (Nat.le_of_ble_eq_true rfl) ?_
  repeat' ((conv => whnf); first
      | refine Branch.ofT rfl ?_
      | refine Branch.ofF rfl ?_
      | refine Branch.ofF (decide_eq_false (by omega)) ?_
      | refine Branch.dec (fun h => ?_) (fun h => ?_)
      | refine Branch.negdec (fun h => ?_) (fun h => ?_)
      | refine Branch.neg (fun h => ?_) (fun h => ?_)
      | refine Branch.mk (fun h => ?_) (fun h => ?_)
      | (refine Side.mk ?_ ?_; · first | omega | decide)
      | (refine SideD.mk ?_ ?_; · first | omega | decide)
      | refine ⟨_, Nat.lt_succ_self _, To.refl (.inl ⟨rfl, ?_⟩)⟩
      | refine LoopA.unroll _ _ _ 3 ?_
      | refine Branch.ofF (by rfl) ?_
      | refine Side.mk ⟨by unfold fits; omega, by simp [scal]⟩ ?_
      | (refine Side.mk ?_ ?_; · (simp; done))
      | fail
      )
  all_goals (conv => whnf)
  exact RetA.gc [(0, true)] rfl ⟨dat rfl, trivial⟩ ⟨rfl, rfl⟩
theorem c62_128 : CallA Tryd.prog 62 [I (128 : Nat)] Heap.nil fun v H' => v = .slice 0 0 2 none 1 ∧ H' = ⟨1, [(0, .cells ([128, 2].map B))]⟩ := by
  refine callA_of ok62 (Nat.le_of_ble_eq_true rfl) ?_
  repeat' ((conv => whnf); first
      | refine Branch.ofT rfl ?_
      | refine Branch.ofF rfl ?_
      | refine Branch.ofF (decide_eq_false (by omega)) ?_
      | refine Branch.dec (fun h => ?_) (fun h => ?_)
      | refine Branch.negdec (fun h => ?_) (fun h => ?_)
      | refine Branch.neg (fun h => ?_) (fun h => ?_)
      | refine Branch.mk (fun h => ?_) (fun h => ?_)
      | (refine Side.mk ?_ ?_; · first | omega | decide)
      | (refine SideD.mk ?_ ?_; · first | omega | decide)
      | refine ⟨_, Nat.lt_succ_self _, To.refl (.inl ⟨rfl, ?_⟩)⟩
      | refine LoopA.unroll _ _ _ 3 ?_
      | refine Branch.ofF (by rfl) ?_
      | refine Side.mk ⟨by unfold fits; omega, by simp [scal]⟩ ?_
      | refine Side.mk (appB (by rfl) (by omega) (by simp [scal]) (by omega)) ?_
      | (refine Side.mk ?_ ?_; · (simp; done))
      | fail
      )
  all_goals (conv => whnf)
  exact RetA.gc [(1, true)] rfl ⟨dat rfl, trivial⟩ ⟨rfl, rfl⟩
theorem c56 (t e : List Nat) (k n : Nat) (ht : ∀ x ∈ t, x < 256) (hn : t.length = n) (h62 : CallA Tryd.prog 62 [I n] Heap.nil fun v H' => v = .slice 0 0 k none 1 ∧ H' = ⟨1, [(0, .cells (e.map B))]⟩) (hk : e.length = k) (hk1 : k ≤ 10) (ht0 : 0 < n) (ht1 : n ≤ 1000) : CallA Tryd.prog 56 [.str (txt t)] Heap.nil fun v H' => v = .dslice ((e ++ t).map B) (k + n) none ∧ H' = Heap.nil := by
  refine callA_of ok56 (Nat.le_of_ble_eq_true rfl) ?_
  have e1 := txt_size t
  have e2 : List.take ((txt t).size * 1) (strCells (txt t)) = t.map B := by rw [txt_cells ht, List.take_of_length_le (by simp [e1])]
  rw [hn] at e1
  rw [← e1] at h62
  repeat' ((conv => whnf); first
      | refine Branch.ofT rfl ?_
      | refine Branch.ofF rfl ?_
      | refine Branch.dec (fun h => ?_) (fun h => ?_)
      | refine Branch.negdec (fun h => ?_) (fun h => ?_)
      | refine Branch.neg (fun h => ?_) (fun h => ?_)
      | refine Branch.mk (fun h => ?_) (fun h => ?_)
      | (refine Side.mk ?_ ?_; · first | omega | decide)
      | (refine SideD.mk ?_ ?_; · first | omega | decide)
      | refine ⟨_, Nat.lt_succ_self _, To.refl (.inl ⟨rfl, ?_⟩)⟩
      | refine CallA.own h62 rfl (noLocL_bs e) ?_
      | refine Side.mk (by rw [txt_cells ht, List.length_map]; omega) ?_
      | refine Side.mk (appB (by simp; omega) (by omega) (by rw [e2]; exact scal_bs t) (by omega)) ?_
      | (refine Side.mk ?_ ?_; · (simp; done))
      | fail
      )
  all_goals (conv => whnf)
  refine RetA.pub 1 (ds := (e ++ t).map B) (by show AB.cells (e.map B ++ List.take ((txt t).size * 1) (strCells (txt t))) = _; rw [e2, List.map_append]) (dat_bs _) ?_
  refine RetA.data rfl ⟨?_, rfl⟩
  show AV.dslice ((((e ++ t).map B).drop 0).take ((k + (txt t).size) * 1)) (k + (txt t).size) none = _
  rw [e1, List.drop_zero, List.take_of_length_le (by simp; omega)]
def msg (nb p : List Nat) : List Nat := 27 :: (16 :: nb ++ (128 :: 2 :: p))
theorem c48 (nb p : List Nat) (cap : Option Nat) (hn : nb.length = 8) (hp : p.length = 128) (hnb : ∀ x ∈ nb, x < 256) (hpb : ∀ x ∈ p, x < 256) : CallA Tryd.prog 48 [I 27, .dslice [.str (txt nb), .str (txt p)] 2 cap] Heap.nil fun v H' => v = .dslice ((msg nb p).map B) 140 none ∧ H' = Heap.nil := by
  refine callA_of ok48 (Nat.le_of_ble_eq_true rfl) ?_
  have h1 := c56 nb [16] 1 8 hnb hn c62_8 rfl (by omega) (by omega) (by omega)
  have h2 := c56 p [128, 2] 2 128 hpb hp c62_128 rfl (by omega) (by omega) (by omega)
  have a1 : List.take ((1 + 8) * 1) (([16] ++ nb).map B) = ([16] ++ nb).map B := List.take_of_length_le (by simp; omega)
  have a2 : List.take ((2 + 128) * 1) (([128, 2] ++ p).map B) = ([128, 2] ++ p).map B := List.take_of_length_le (by simp; omega)
  repeat' ((conv => whnf); first
      | refine Branch.ofT rfl ?_
      | refine Branch.ofF rfl ?_
      | refine Branch.ofF (decide_eq_false (by omega)) ?_
      | refine Branch.dec (fun h => ?_) (fun h => ?_)
      | refine Branch.negdec (fun h => ?_) (fun h => ?_)
      | refine Branch.neg (fun h => ?_) (fun h => ?_)
      | refine Branch.mk (fun h => ?_) (fun h => ?_)
      | (refine Side.mk ?_ ?_; · first | omega | decide)
      | (refine SideD.mk ?_ ?_; · first | omega | decide)
      | refine ⟨_, Nat.lt_succ_self _, To.refl (.inl ⟨rfl, ?_⟩)⟩
      | refine LoopA.unroll _ _ _ 3 ?_
      | refine Branch.ofF (by rfl) ?_
      | refine CallA.pure h1 rfl (by simp [noLoc, noLocL_bs]) ?_
      | refine CallA.pure h2 rfl (by simp [noLoc, noLocL_bs]) ?_
      | refine Side.mk (by rw [List.length_map, List.length_append, List.length_cons, List.length_nil, hn]; omega) ?_
      | refine Side.mk (by rw [List.length_map, List.length_append, List.length_cons, List.length_cons, List.length_nil, hp]; omega) ?_
      | refine Side.mk ⟨by rfl, by simp, by unfold fits; omega, by rw [a1]; exact scal_bs _⟩ ?_
      | refine Side.mk (appB (by rw [a1]; simp [rep]; omega) (by omega) (by rw [a2]; exact scal_bs _) (by omega)) ?_
      | (refine Side.mk ?_ ?_; · (simp; done))
      | fail
      )
  all_goals (conv => whnf)
  refine RetA.pub 1 (ds := (msg nb p).map B) (by show AB.cells ([B 27] ++ List.take ((1 + 8) * 1) (([16] ++ nb).map B) ++ List.take ((2 + 128) * 1) (([128, 2] ++ p).map B)) = _; rw [a1, a2]; simp [msg]) (dat_bs _) ?_
  refine RetA.data rfl ⟨?_, rfl⟩
  show AV.dslice ((((msg nb p).map B).drop 0).take ((1 + (1 + 8) + (2 + 128)) * 1)) (1 + (1 + 8) + (2 + 128)) none = _
  rw [List.drop_zero, List.take_of_length_le (by simp [msg, hn, hp])]
theorem msg_len {nb p : List Nat} (hn : nb.length = 8) (hp : p.length = 128) : (msg nb p).length = 140 := by simp [msg, hn, hp]
theorem msg_lt {nb p : List Nat} (hnb : ∀ x ∈ nb, x < 256) (hpb : ∀ x ∈ p, x < 256) : ∀ x ∈ msg nb p, x < 256 := by
  intro x hx
  simp only [msg, List.mem_cons, List.mem_append] at hx
  rcases hx with rfl | (rfl | h) | rfl | rfl | h
  · omega
  · omega
  · exact hnb x h
  · omega
  · omega
  · exact hpb x h
def dig (m : List Nat) : List Nat := (outN (absorb iv (padN m) 3)).take 16
theorem c47a (m : List Nat) (cap : Option Nat) (s : S8) (h : CallA Tryd.prog 55 [.dslice (m.map B) 140 cap] Heap.nil fun v H' => v = .agg ((outN s).map B) ∧ H' = Heap.nil) : CallA Tryd.prog 47 [.dslice (m.map B) 140 cap] Heap.nil fun v H' => v = .agg (((outN s).take 16).map B) ∧ H' = Heap.nil := by
  refine callA_of ok47 (Nat.le_of_ble_eq_true rfl) ?_
  repeat' ((conv => whnf); first
      | refine Branch.ofT rfl ?_
      | refine Branch.ofF rfl ?_
      | refine Branch.dec (fun h => ?_) (fun h => ?_)
      | refine Branch.negdec (fun h => ?_) (fun h => ?_)
      | refine Branch.neg (fun h => ?_) (fun h => ?_)
      | refine Branch.mk (fun h => ?_) (fun h => ?_)
      | (refine Side.mk ?_ ?_; · first | omega | decide)
      | (refine SideD.mk ?_ ?_; · first | omega | decide)
      | refine ⟨_, Nat.lt_succ_self _, To.refl (.inl ⟨rfl, ?_⟩)⟩
      | refine CallA.pure h rfl (by simp [noLoc, noLocL_bs]) ?_
      | refine LoopA.unroll _ _ _ 17 ?_
      | (refine Side.mk ?_ ?_; · (simp; done))
      | fail
      )
  all_goals (conv => whnf)
  exact RetA.data rfl ⟨rfl, rfl⟩
theorem c47 (m : List Nat) (cap : Option Nat) (hm : m.length = 140) (hb : ∀ x ∈ m, x < 256) : CallA Tryd.prog 47 [.dslice (m.map B) 140 cap] Heap.nil fun v H' => v = .agg ((dig m).map B) ∧ H' = Heap.nil :=
  c47a m cap _ (c55 m cap hm hb)
theorem tkBn {d : List Nat} {n : Nat} {K : List AV → Prop} (h : d.length = n) (hk : K (d.map B)) : takeK n ((d.map B).drop 0) K := by
  subst h
  rw [List.drop_zero, takeK_eq _ _ _ (by simp)]
  rw [List.take_of_length_le (by simp)]
  exact hk
theorem c41a (nb p m d : List Nat) (cap : Option Nat) (h48 : CallA Tryd.prog 48 [I 27, .dslice [.str (txt nb), .str (txt p)] 2 cap] Heap.nil fun v H' => v = .dslice (m.map B) 140 none ∧ H' = Heap.nil)
    (h47 : CallA Tryd.prog 47 [.dslice (m.map B) 140 none] Heap.nil fun v H' => v = .agg (d.map B) ∧ H' = Heap.nil) (hl : d.length = 16) :
    CallA Tryd.prog 41 [I 27, .dslice [.str (txt nb), .str (txt p)] 2 cap] Heap.nil fun v H' => v = .agg (d.map B) ∧ H' = Heap.nil := by
  refine callA_of ok41 (Nat.le_of_ble_eq_true rfl) ?_
  repeat' ((conv => whnf); first
      | refine Branch.ofT rfl ?_
      | refine Branch.ofF rfl ?_
      | refine Branch.dec (fun h => ?_) (fun h => ?_)
      | refine Branch.negdec (fun h => ?_) (fun h => ?_)
      | refine Branch.neg (fun h => ?_) (fun h => ?_)
      | refine Branch.mk (fun h => ?_) (fun h => ?_)
      | (refine Side.mk ?_ ?_; · first | omega | decide)
      | (refine SideD.mk ?_ ?_; · first | omega | decide)
      | refine ⟨_, Nat.lt_succ_self _, To.refl (.inl ⟨rfl, ?_⟩)⟩
      | refine CallA.pure h48 rfl (by simp [noLoc, noLocL_bs]) ?_
      | refine CallA.pure h47 rfl (noLocL_bs _) ?_
      | refine condT (by simp [hl]) ?_
      | refine lputA (by simp [hl]) (by simp [scal]) ?_
      | refine tkBn hl ?_
      | (refine Side.mk ?_ ?_; · (simp; done))
      | fail
      )
  all_goals (conv => whnf)
  exact RetA.data (v := .agg (d.map B)) (noLocL_bs d) ⟨rfl, rfl⟩
theorem dig_len (m : List Nat) : (dig m).length = 16 := by simp [dig, outN, out4]
theorem c41 (nb p : List Nat) (cap : Option Nat) (hn : nb.length = 8) (hp : p.length = 128) (hnb : ∀ x ∈ nb, x < 256) (hpb : ∀ x ∈ p, x < 256) : CallA Tryd.prog 41 [I 27, .dslice [.str (txt nb), .str (txt p)] 2 cap] Heap.nil fun v H' => v = .agg ((dig (msg nb p)).map B) ∧ H' = Heap.nil :=
  c41a nb p (msg nb p) (dig (msg nb p)) cap (c48 nb p cap hn hp hnb hpb) (c47 (msg nb p) none (msg_len hn hp) (msg_lt hnb hpb)) (dig_len _)
/-- The bytes of a slot's number. -/
def nbs (n : Nat) : List Nat := [n, 0, 0, 0, 0, 0, 0, 0]
theorem c29a (n : Nat) (p d : List Nat) (hn : n < 256) (hp : p.length = 128) (hd : d.length = 16)
    (h41 : ∀ cap, CallA Tryd.prog 41 [I 27, .dslice [.str (txt (nbs n)), .str (txt p)] 2 cap] Heap.nil fun v H' => v = .agg (d.map B) ∧ H' = Heap.nil) :
    CallA Tryd.prog 29 [I n, .agg (p.map B)] Heap.nil fun v H' => v = .agg (d.map B) ∧ H' = Heap.nil := by
  refine callA_of ok29 (Nat.le_of_ble_eq_true rfl) ?_
  have hN : [AV.int .u8 (IntKind.u8.wrap ((n : Int).fdiv (2 ^ 0))), AV.int .u8 (IntKind.u8.wrap ((n : Int).fdiv (2 ^ 8))), AV.int .u8 (IntKind.u8.wrap ((n : Int).fdiv (2 ^ 16))), AV.int .u8 (IntKind.u8.wrap ((n : Int).fdiv (2 ^ 24))), AV.int .u8 (IntKind.u8.wrap ((n : Int).fdiv (2 ^ 32))), AV.int .u8 (IntKind.u8.wrap ((n : Int).fdiv (2 ^ 40))), AV.int .u8 (IntKind.u8.wrap ((n : Int).fdiv (2 ^ 48))), AV.int .u8 (IntKind.u8.wrap ((n : Int).fdiv (2 ^ 56)))] = (nbs n).map B := by
    simp only [wb]
    rw [show n / 2 ^ 0 % 256 = n by omega, show n / 2 ^ 8 % 256 = 0 by omega, show n / 2 ^ 16 % 256 = 0 by omega, show n / 2 ^ 24 % 256 = 0 by omega, show n / 2 ^ 32 % 256 = 0 by omega, show n / 2 ^ 40 % 256 = 0 by omega, show n / 2 ^ 48 % 256 = 0 by omega, show n / 2 ^ 56 % 256 = 0 by omega]
    rfl
  have hp2 : List.take (128 * 1) (List.drop 0 (p.map B)) = p.map B := by rw [List.drop_zero, List.take_of_length_le (by simp [hp])]
  repeat' ((conv => whnf); first
      | refine Branch.ofT rfl ?_
      | refine Branch.ofF rfl ?_
      | refine Branch.dec (fun h => ?_) (fun h => ?_)
      | refine Branch.negdec (fun h => ?_) (fun h => ?_)
      | refine Branch.neg (fun h => ?_) (fun h => ?_)
      | refine Branch.mk (fun h => ?_) (fun h => ?_)
      | (refine Side.mk ?_ ?_; · first | omega | decide)
      | (refine SideD.mk ?_ ?_; · first | omega | decide)
      | refine ⟨_, Nat.lt_succ_self _, To.refl (.inl ⟨rfl, ?_⟩)⟩
      | refine LoopA.unroll _ _ _ 9 ?_
      | refine Side.mk ⟨by unfold fits; omega, by simp [scal]⟩ ?_
      | refine Side.mk (appB (by simp [rep]) (by omega) (by simp [scal]) (by omega)) ?_
      | refine bres hN ?_
      | refine bres hp2 ?_
      | refine Side.mk (by simp [hp]) ?_
      | refine QCallA.of (h41 _) rfl (noLocL_bs d) ?_
      | refine condT (by simp [hd]) ?_
      | refine lputA (by simp [hd]) (by simp [scal]) ?_
      | refine tkBn hd ?_
      | (refine Side.mk ?_ ?_; · (simp; done))
      | fail
      )
  all_goals (conv => whnf)
  exact RetA.data (v := .agg (d.map B)) (noLocL_bs d) ⟨rfl, rfl⟩
theorem nbs_lt {n : Nat} (h : n < 256) : ∀ x ∈ nbs n, x < 256 := by
  intro x hx; simp only [nbs, List.mem_cons, List.not_mem_nil, or_false] at hx; omega
theorem c29 (n : Nat) (p : List Nat) (hn : n < 256) (hp : p.length = 128) (hpb : ∀ x ∈ p, x < 256) : CallA Tryd.prog 29 [I n, .agg (p.map B)] Heap.nil fun v H' => v = .agg ((dig (msg (nbs n) p)).map B) ∧ H' = Heap.nil :=
  c29a n p _ hn hp (dig_len _) fun cap => c41 (nbs n) p cap rfl hp (nbs_lt hn) hpb
end Go.Proofs

namespace Go.Proofs
open Go Go.Eng
set_option maxRecDepth 100000
set_option maxHeartbeats 4000000
/-! ### The program's stream -/
structure St where
  (s : S8) (b : List Nat) (n : Nat)
abbrev U (n : Nat) : AV := .int .u64 (n : Int)
def St.av (σ : St) : List AV := W σ.s.a :: W σ.s.b :: W σ.s.c :: W σ.s.d :: W σ.s.e :: W σ.s.f :: W σ.s.g :: W σ.s.h :: (σ.b.map B ++ [U σ.n])
structure St.ok (σ : St) : Prop where
  s : σ.s.ok
  l : σ.b.length = 64
  b : ∀ x ∈ σ.b, x < 256
def stepK (σ : St) (t : List Nat) : Nat := min (64 - σ.n % 64) t.length
def stepB (σ : St) (t : List Nat) : List Nat := σ.b.take (σ.n % 64) ++ t.take (stepK σ t) ++ σ.b.drop (σ.n % 64 + stepK σ t)
def stepF (σ : St) (t : List Nat) : St := ⟨if σ.n % 64 + stepK σ t = 64 then compN σ.s (stepB σ t) else σ.s, stepB σ t, σ.n + stepK σ t⟩
def addF : Nat → St → List Nat → St
  | 0, σ, _ => σ
  | f + 1, σ, t => if t = [] then σ else addF f (stepF σ t) (t.drop (stepK σ t))
theorem stepK_le (σ : St) (t : List Nat) : stepK σ t ≤ t.length ∧ σ.n % 64 + stepK σ t ≤ 64 := by unfold stepK; omega
theorem stepK_pos {σ : St} {t : List Nat} (h : t ≠ []) : 0 < stepK σ t := by
  have := List.length_pos_iff.2 h
  unfold stepK; omega
theorem step_ok {σ : St} {t : List Nat} (h : σ.ok) (ht : ∀ x ∈ t, x < 256) : (stepF σ t).ok := by
  have := stepK_le σ t
  refine ⟨?_, ?_, ?_⟩
  · unfold stepF; dsimp only; split
    · exact comp_ok h.s _
    · exact h.s
  · simp [stepF, stepB, h.l]; omega
  · intro x hx
    simp only [stepF, stepB, List.mem_append] at hx
    rcases hx with (hx | hx) | hx
    · exact h.b x (List.mem_of_mem_take hx)
    · exact ht x (List.mem_of_mem_take hx)
    · exact h.b x (List.mem_of_mem_drop hx)
attribute [local irreducible] compN
theorem frz1 {η : Nat → AB} {k : Nat} {ds vs us : List AV} {K : List AV → Prop} (h : η k = .cells ds) (hd : ds.all noLoc = true) (he : pubL k ds vs = us) (hk : fvs us K) : fvs (frz η [k] vs) K := by
  have : frz η [k] vs = us := by
    simp only [frz, h, hd, cond_true]; exact he
  rw [this]; exact hk
theorem lputE {cs : List AV} {K : List AV → Prop} (hk : K cs) : lputK cs 0 [] K := lputK_eq (by simp) rfl (by simpa using hk)
theorem all_bs (bs : List Nat) : (bs.map B).all noLoc = true := by rw [List.all_eq_true]; exact dat_bs bs
def z73 : List AV := List.replicate 8 (W 0) ++ List.replicate 64 (B 0) ++ [U 0]
def L52 (fin : St) (m : Nat) (fr : Fr) (H : Heap) : Prop := ∃ (f : Nat) (σ : St) (t : List Nat), t.length ≤ f ∧ addF f σ t = fin ∧ σ.ok ∧ (∀ x ∈ t, x < 256) ∧ σ.n + t.length ≤ 100000 ∧ m = t.length ∧ fr = [(1, .str (txt t)), (2, .ptr 0 0), (4, .ptr 1 0)] ∧ H = ⟨2, [(0, .cells σ.av), (1, .cells z73)]⟩
theorem ldN {σ : St} (h : σ.b.length = 64) {K : AV → Prop} (hk : K (U σ.n)) : nthK 0 (σ.av.drop 72) K := by
  have : σ.av.drop 72 = [U σ.n] := by
    show (σ.b.map B ++ [U σ.n]).drop 64 = _
    rw [List.drop_append, List.drop_eq_nil_of_le (by simp [h]), List.length_map, h]; rfl
  rw [this]; exact hk
theorem av_len {σ : St} (h : σ.b.length = 64) : σ.av.length = 73 := by simp [St.av, h]
theorem w64i {n : Nat} (h : n ≤ 100000) : IntKind.i64.wrap ((n : Int).tmod 64) = ((n % 64 : Nat) : Int) := by
  rw [Int.tmod_eq_emod_of_nonneg (by omega)]
  have : IntKind.i64.wrap ((n : Int) % 64) = (n : Int) % 64 := wrap_in (by
    have e1 : IntKind.i64.min = -9223372036854775808 := rfl
    have e2 : IntKind.i64.max = 9223372036854775807 := rfl
    omega)
  rw [this]; omega
theorem stC {σ : St} {t : List Nat} {off : Nat} {ds : List AV} {K : List AV → Prop} (h : σ.b.length = 64) (e : off = 8 + σ.n % 64) (hd : ds = (t.take (stepK σ t)).map B) (hk : K (St.av ⟨σ.s, stepB σ t, σ.n⟩)) : lputK σ.av off ds K := by
  subst e hd
  have h1 := stepK_le σ t
  refine lputK_eq (by rw [av_len h]; simp; omega) (by rw [List.all_eq_true]; exact fun c hc => scal_bs _ c hc) ?_
  have : σ.av.take (8 + σ.n % 64) ++ (t.take (stepK σ t)).map B ++ σ.av.drop (8 + σ.n % 64 + ((t.take (stepK σ t)).map B).length) = St.av ⟨σ.s, stepB σ t, σ.n⟩ := by
    have e1 : σ.av = [W σ.s.a, W σ.s.b, W σ.s.c, W σ.s.d, W σ.s.e, W σ.s.f, W σ.s.g, W σ.s.h] ++ (σ.b.map B ++ [U σ.n]) := rfl
    have e2 : St.av ⟨σ.s, stepB σ t, σ.n⟩ = [W σ.s.a, W σ.s.b, W σ.s.c, W σ.s.d, W σ.s.e, W σ.s.f, W σ.s.g, W σ.s.h] ++ ((stepB σ t).map B ++ [U σ.n]) := rfl
    rw [e1, e2, List.length_map, List.length_take, Nat.min_eq_left h1.1, Nat.add_assoc 8]
    rw [List.take_append, List.drop_append, List.take_of_length_le (by simp), List.drop_eq_nil_of_le (by simp)]
    simp only [List.length_cons, List.length_nil, List.nil_append, List.append_assoc, Nat.zero_add, Nat.add_sub_cancel_left, Nat.reduceAdd]
    rw [List.take_append_of_le_length (by simp [h]; omega), List.drop_append_of_le_length (by simp [h]; omega)]
    simp only [stepB, List.map_append, List.map_take, List.map_drop, List.append_assoc]
  rw [this]; exact hk
theorem stN {b : List Nat} {n m : Nat} {z : Int} {K : List AV → Prop} (h : b.length = 64) (e : z = (m : Int)) (hk : K (b.map B ++ [U m])) : lputK (b.map B ++ [U n]) 64 [.int .u64 z] K := by
  subst e
  exact lput1 (by simp [h]) rfl hk
theorem wu64 {n : Nat} (h : n ≤ 1000000000) : IntKind.u64.wrap (n : Int) = n := wrap_in (by
  have e1 : IntKind.u64.min = 0 := rfl
  have e2 : IntKind.u64.max = 18446744073709551615 := rfl
  omega)
theorem uadd {n k m : Nat} (h : n + k ≤ 1000000000) (e : n + k = m) : IntKind.u64.wrap ((n : Int) + IntKind.u64.wrap (k : Int)) = (m : Int) := by
  subst e
  rw [wu64 (n := k) (by omega), ← wu64 (n := n + k) h]; congr 1
theorem tk65 {b : List Nat} {n : Nat} {K : List AV → Prop} (h : b.length = 64) (hk : K (b.map B ++ [U n])) : takeK 65 (b.map B ++ [U n]) K := by
  rw [takeK_eq _ _ _ (by simp [h]), List.take_of_length_le (by simp [h])]
  exact hk
theorem noLocL_app : ∀ (a b : List AV), noLocL a = true → noLocL b = true → noLocL (a ++ b) = true
  | [], _, _, h => h
  | c :: a, b, h, k => by
    simp only [noLocL, List.cons_append, Bool.and_eq_true] at h ⊢
    exact ⟨h.1, noLocL_app a b h.2 k⟩
theorem noLocL_av (σ : St) : noLocL σ.av = true :=
  noLocL_app (W σ.s.a :: W σ.s.b :: W σ.s.c :: W σ.s.d :: W σ.s.e :: W σ.s.f :: W σ.s.g :: W σ.s.h :: σ.b.map B) [U σ.n] (by simp [noLocL, noLoc, noLocL_bs]) rfl
theorem c52 (σ : St) (t : List Nat) (hσ : σ.ok) (ht : ∀ x ∈ t, x < 256) (hn : σ.n + t.length ≤ 100000) : CallA Tryd.prog 52 [.agg σ.av, .str (txt t)] Heap.nil fun v H' => v = .agg (addF t.length σ t).av ∧ H' = Heap.nil := by
  refine callA_of ok52 (Nat.le_of_ble_eq_true rfl) ?_
  repeat' ((conv => whnf); first
      | refine Branch.ofT rfl ?_
      | refine Branch.ofF rfl ?_
      | refine Branch.dec (fun h => ?_) (fun h => ?_)
      | refine Branch.negdec (fun h => ?_) (fun h => ?_)
      | refine Branch.neg (fun h => ?_) (fun h => ?_)
      | refine Branch.mk (fun h => ?_) (fun h => ?_)
      | (refine Side.mk ?_ ?_; · first | omega | decide)
      | (refine SideD.mk ?_ ?_; · first | omega | decide)
      | refine ⟨_, Nat.lt_succ_self _, To.refl (.inl ⟨rfl, ?_⟩)⟩
      | (refine Side.mk ?_ ?_; · (simp; done))
      | fail
      )
  all_goals (conv => whnf)
  refine ⟨L52 (addF t.length σ t), t.length, To.gc [(0, true), (1, true)] [1, 2, 4] rfl ⟨?_, dat rfl, trivial⟩ ⟨t.length, σ, t, by omega, rfl, hσ, ht, hn, rfl, rfl, rfl⟩, ?_⟩
  · exact dat (by simp [St.av, all_bs, noLoc])
  generalize addF t.length σ t = fin
  rintro n fr H ⟨f, σ, t, hf, hfin, hσ, ht, hn, rfl, rfl, rfl⟩
  have hl := hσ.l
  by_cases he : t = []
  · subst he
    have hfs : fin = σ := by
      rw [← hfin]; cases f with
      | zero => rfl
      | succ f => rw [addF, if_pos rfl]
    subst hfs
    have hal := av_len hl
    repeat' ((conv => whnf); first
        | refine Branch.ofT rfl ?_
        | refine Branch.ofF rfl ?_
        | refine Branch.negdec (fun hn => absurd txt_nil hn) (fun _ => ?_)
        | refine Branch.dec (fun h => ?_) (fun h => ?_)
        | refine Branch.negdec (fun h => ?_) (fun h => ?_)
        | refine Branch.neg (fun h => ?_) (fun h => ?_)
        | refine Branch.mk (fun h => ?_) (fun h => ?_)
        | (refine Side.mk ?_ ?_; · first | omega | decide)
        | (refine SideD.mk ?_ ?_; · first | omega | decide)
        | refine ⟨_, Nat.lt_succ_self _, To.refl (.inl ⟨rfl, ?_⟩)⟩
        | refine tk65 hl ?_
        | refine condT (by simp [hl]) ?_
        | refine lputA (by simp [hl]) (by simp [scal]) ?_
        | (refine Side.mk ?_ ?_; · (simp; done))
        | fail
        )
    all_goals (conv => whnf)
    exact RetA.data (v := .agg fin.av) (noLocL_av fin) ⟨rfl, rfl⟩
  · have hne := txt_ne he
    have hw := w64i (n := σ.n) (by omega)
    obtain ⟨a, ha⟩ : ∃ a, a = σ.n % 64 := ⟨_, rfl⟩
    have ha64 : a < 64 := by omega
    rw [← ha] at hw
    have ec := txt_cells ht
    have es := txt_size t
    have hal := av_len hl
    have hk := stepK_le σ t
    have d0 : List.take ((txt t).size * 1) (strCells (txt t)) = t.map B := by rw [ec, List.take_of_length_le (by simp [es])]
    have d1 : t.length ≤ 64 - a → List.take ((txt t).size * 1) (strCells (txt t)) = (t.take (stepK σ t)).map B := fun h => by
      rw [d0, List.take_of_length_le (by unfold stepK; omega)]
    have d2 : ¬ t.length ≤ 64 - a → ∀ q, q = 64 - a → List.take (q * 1) (List.take ((txt t).size * 1) (strCells (txt t))) = (t.take (stepK σ t)).map B := fun h q hq => by
      rw [d0, ← List.map_take, show q * 1 = stepK σ t by unfold stepK; omega]
    have k1 : t.length ≤ 64 - a → stepK σ t = t.length := fun h => by unfold stepK; omega
    have k2 : ¬ t.length ≤ 64 - a → stepK σ t = 64 - a := fun h => by unfold stepK; omega
    have hl' : (stepB σ t).length = 64 := by simp [stepB, hl]; omega
    have h57 : ∀ cs len cap, cs = (stepB σ t).map B → len = 64 → CallA Tryd.prog 57 [.agg σ.s.av, .dslice cs len cap] Heap.nil fun v H' => v = .agg (compN σ.s (stepB σ t)).av ∧ H' = Heap.nil := by
      rintro _ _ cap rfl rfl; exact c57 σ.s (stepB σ t) cap hσ.s hl' (step_ok hσ ht).b
    have hF1 : σ.n % 64 + stepK σ t = 64 → stepF σ t = ⟨compN σ.s (stepB σ t), stepB σ t, σ.n + stepK σ t⟩ := fun h => by unfold stepF; rw [if_pos h]
    have hF2 : σ.n % 64 + stepK σ t ≠ 64 → stepF σ t = ⟨σ.s, stepB σ t, σ.n + stepK σ t⟩ := fun h => by unfold stepF; rw [if_neg h]
    generalize compN σ.s (stepB σ t) = s2 at h57 hF1
    have hso := step_ok hσ ht
    obtain ⟨g, rfl⟩ : ∃ g, f = g + 1 := ⟨f - 1, by have := List.length_pos_iff.2 he; omega⟩
    have hkp := stepK_pos (σ := σ) he
    rw [addF, if_neg he] at hfin
    have hdl : (t.drop (stepK σ t)).length = t.length - stepK σ t := List.length_drop
    have hnF : (stepF σ t).n = σ.n + stepK σ t := rfl
    have hdb : ∀ x ∈ t.drop (stepK σ t), x < 256 := fun x hx => ht x (List.mem_of_mem_drop hx)
    have ex : ∀ x y : Nat, x = stepK σ t → y = t.length → (txt t).extract x y = txt (t.drop (stepK σ t)) := by
      rintro _ _ rfl rfl; exact txt_drop rfl hk.1
    have hdat : ∀ s : S8, ∀ c ∈ St.av ⟨s, stepB σ t, σ.n + stepK σ t⟩, noLoc c = true := fun s => dat (by simp [St.av, all_bs, noLoc])
    repeat' ((conv => whnf); first
        | refine Branch.ofT rfl ?_
        | refine Branch.ofF rfl ?_
        | refine Branch.negdec (fun _ => ?_) (fun hn => absurd hn hne)
        | refine Branch.dec (fun h => ?_) (fun h => ?_)
        | refine Branch.negdec (fun h => ?_) (fun h => ?_)
        | refine Branch.neg (fun h => ?_) (fun h => ?_)
        | refine Branch.mk (fun h => ?_) (fun h => ?_)
        | (refine Side.mk ?_ ?_; · first | omega | decide)
        | (refine SideD.mk ?_ ?_; · first | omega | decide)
        | refine ⟨_, Nat.lt_succ_self _, To.refl (.inl ⟨rfl, ?_⟩)⟩
        | refine ldN hl ?_
        | refine ldN (σ := ⟨σ.s, stepB σ t, σ.n⟩) hl' ?_
        | refine Side.mk (by rw [ec, List.length_map]; omega) ?_
        | refine stC hl (by omega) (d1 (by omega)) ?_
        | refine stC hl (by omega) (d2 (by omega) _ (by omega)) ?_
        | refine stN (m := σ.n + stepK σ t) hl' (uadd (n := σ.n) (by omega) (by omega)) ?_
        | refine Side.mk ⟨by decide, by decide, by decide, by decide, by simp [hl']⟩ ?_
        | refine lputE ?_
        | refine frz1 (by rfl) (by simp [noLoc, all_bs]) (by rfl) ?_
        | refine QCallA.of (h57 _ _ _ (by simp [hl']) (by rfl)) rfl rfl ?_
        | (refine Side.mk ?_ ?_; · (simp; done))
        | fail
        )
    all_goals (conv => whnf)
    all_goals first
      | exact ⟨(t.drop (stepK σ t)).length, by omega, To.gc [(0, true), (1, true)] [1, 2, 4] rfl ⟨hdat _, dat rfl, trivial⟩ ⟨g, stepF σ t, t.drop (stepK σ t), by omega, hfin, hso, hdb, by omega, rfl, congrArg (fun z => [(1, AV.str z), (2, .ptr 0 0), (4, .ptr 1 0)]) (ex _ _ (by omega) (by omega)), by rw [hF1 (by omega)]; rfl⟩⟩
      | exact ⟨(t.drop (stepK σ t)).length, by omega, To.gc [(0, true), (1, true)] [1, 2, 4] rfl ⟨hdat _, dat rfl, trivial⟩ ⟨g, stepF σ t, t.drop (stepK σ t), by omega, hfin, hso, hdb, by omega, rfl, congrArg (fun z => [(1, AV.str z), (2, .ptr 0 0), (4, .ptr 1 0)]) (ex _ _ (by omega) (by omega)), by rw [hF2 (by omega)]; rfl⟩⟩
end Go.Proofs

namespace Go.Proofs
open Go Go.Eng
set_option maxRecDepth 100000
set_option maxHeartbeats 4000000
/-! ### What a stream is -/
structure Str (m : List Nat) (σ : St) : Prop where
  n : σ.n = m.length
  s : σ.s = absorb iv m (m.length / 64)
  l : σ.b.length = 64
  b : σ.b.take (m.length % 64) = m.drop (64 * (m.length / 64))
theorem chunk_app (m x : List Nat) (k : Nat) (h : 64 * (k + 1) ≤ m.length) : chunk (m ++ x) k = chunk m k := by
  unfold chunk
  rw [List.drop_append_of_le_length (by omega), List.take_append_of_le_length (by simp; omega)]
theorem absorb_app (s : S8) (m x : List Nat) : ∀ k, 64 * k ≤ m.length → absorb s (m ++ x) k = absorb s m k
  | 0, _ => rfl
  | k + 1, h => by
    rw [absorb, absorb, absorb_app s m x k (by omega), chunk_app m x k h]
attribute [local irreducible] compN
theorem str_step {m t : List Nat} {σ : St} (h : Str m σ) : Str (m ++ t.take (stepK σ t)) (stepF σ t) := by
  obtain ⟨hn, hs, hl, hb⟩ := h
  have hk := stepK_le σ t
  have hlen : (m ++ t.take (stepK σ t)).length = m.length + stepK σ t := by simp; omega
  have hbl : (stepB σ t).length = 64 := by simp [stepB, hl]; omega
  rw [hn] at hk
  have e1 : m.length = 64 * (m.length / 64) + m.length % 64 := by omega
  have hd : (m ++ t.take (stepK σ t)).drop (64 * (m.length / 64)) = σ.b.take (m.length % 64) ++ t.take (stepK σ t) := by
    rw [List.drop_append_of_le_length (by omega), hb]
  by_cases hf : m.length % 64 + stepK σ t = 64
  · have q1 : (m.length + stepK σ t) / 64 = m.length / 64 + 1 := by omega
    have q2 : (m.length + stepK σ t) % 64 = 0 := by omega
    have hB : stepB σ t = σ.b.take (m.length % 64) ++ t.take (stepK σ t) := by
      unfold stepB; rw [hn, hf, List.drop_eq_nil_of_le (by omega), List.append_nil]
    refine ⟨by rw [hlen]; unfold stepF; dsimp only; rw [hn], ?_, hbl, ?_⟩
    · rw [hlen, q1, absorb, absorb_app _ _ _ _ (by omega), ← hs]
      unfold stepF; dsimp only; rw [hn, if_pos hf]
      congr 1
      unfold chunk
      rw [hd, ← hB, List.take_of_length_le (by omega)]
    · rw [hlen, q1, q2, List.take_zero, List.drop_eq_nil_of_le (by omega)]
  · have q1 : (m.length + stepK σ t) / 64 = m.length / 64 := by omega
    have q2 : (m.length + stepK σ t) % 64 = m.length % 64 + stepK σ t := by omega
    refine ⟨by rw [hlen]; unfold stepF; dsimp only; rw [hn], ?_, hbl, ?_⟩
    · rw [hlen, q1, absorb_app _ _ _ _ (by omega), ← hs]
      unfold stepF; dsimp only; rw [hn, if_neg hf]
    · rw [hlen, q1, q2, hd]
      show (stepB σ t).take _ = _
      unfold stepB
      rw [hn, List.take_append_of_le_length (by simp [hl]; omega), List.take_of_length_le (by simp [hl]; omega)]
theorem str_add : ∀ (f : Nat) {m t : List Nat} {σ : St}, t.length ≤ f → Str m σ → Str (m ++ t) (addF f σ t)
  | 0, m, t, σ, hf, h => by
    have : t = [] := List.eq_nil_of_length_eq_zero (by omega)
    subst this; rw [List.append_nil]; exact h
  | f + 1, m, t, σ, hf, h => by
    rw [addF]
    split
    · rename_i he; subst he; rw [List.append_nil]; exact h
    · rename_i he
      have hk := stepK_pos (σ := σ) he
      have := str_add f (t := t.drop (stepK σ t)) (by simp; omega) (str_step (t := t) h)
      rw [List.append_assoc, List.take_append_drop] at this
      exact this
theorem add_ok : ∀ (f : Nat) {t : List Nat} {σ : St}, (∀ x ∈ t, x < 256) → σ.ok → (addF f σ t).ok
  | 0, _, _, _, h => h
  | f + 1, t, σ, ht, h => by
    rw [addF]
    split
    · exact h
    · exact add_ok f (fun x hx => ht x (List.mem_of_mem_drop hx)) (step_ok h ht)
def padT : List Nat := 128 :: (List.replicate 43 0 ++ [0, 0, 0, 0, 0, 0, 4, 96])
theorem padN_eq (m : List Nat) : padN m = m ++ padT := rfl
def z32' : List AV := List.replicate 32 (B 0)
def L54 (s : S8) (b : List Nat) (k : Nat) (fr : Fr) (H : Heap) : Prop := ∃ j : Nat, j ≤ 43 ∧ k = 43 - j ∧
  ((j = 0 ∧ fr = [(1, .ptr 0 0), (2, .ptr 1 0), (3, .int .u64 1120), (4, .dslice [B 128] 1 (some 1))] ∧ H = ⟨2, [(0, .cells (St.av ⟨s, b, 140⟩)), (1, .cells z32)]⟩) ∨
   (0 < j ∧ fr = [(1, .ptr 0 0), (2, .ptr 1 0), (3, .int .u64 1120), (4, .slice 2 0 (1 + j) none 1)] ∧ H = ⟨3, [(0, .cells (St.av ⟨s, b, 140⟩)), (1, .cells z32), (2, .cells ((128 :: List.replicate j 0).map B))]⟩))
theorem lput65B {b : List Nat} {n : Nat} {vs : List AV} {K : List AV → Prop} (h : b.length = 64) (hv : vs.length = 65) (hs : ∀ c ∈ vs, scal c = true) (hk : K vs) : lputK (b.map B ++ [U n]) 0 vs K :=
  lputA (by simp [h, hv]) (List.all_eq_true.2 hs) hk
theorem scalAv (σ : St) : ∀ c ∈ σ.b.map B ++ [U σ.n], scal c = true := by
  intro c hc
  rcases List.mem_append.1 hc with h | h
  · exact scal_bs _ c h
  · rw [List.mem_singleton.1 h]; rfl
theorem ld140 {s : S8} {b : List Nat} (h : b.length = 64) {K : AV → Prop} (hk : K (U 140)) : nthK 0 ((St.av ⟨s, b, 140⟩).drop 72) K := ldN (σ := ⟨s, b, 140⟩) h hk
theorem c54a (s : S8) (b : List Nat) (σ2 : St) (hb : b.length = 64) (h2 : σ2.b.length = 64) (h52 : CallA Tryd.prog 52 [.agg (St.av ⟨s, b, 140⟩), .str (txt padT)] Heap.nil fun v H' => v = .agg σ2.av ∧ H' = Heap.nil) : CallA Tryd.prog 54 [.agg (St.av ⟨s, b, 140⟩)] Heap.nil fun v H' => v = .agg ((outN σ2.s).map B) ∧ H' = Heap.nil := by
  refine callA_of ok54 (Nat.le_of_ble_eq_true rfl) ?_
  repeat' ((conv => whnf); first
      | refine Branch.ofT rfl ?_
      | refine Branch.ofF rfl ?_
      | refine Branch.dec (fun h => ?_) (fun h => ?_)
      | refine Branch.negdec (fun h => ?_) (fun h => ?_)
      | refine Branch.neg (fun h => ?_) (fun h => ?_)
      | refine Branch.mk (fun h => ?_) (fun h => ?_)
      | (refine Side.mk ?_ ?_; · first | omega | decide)
      | (refine SideD.mk ?_ ?_; · first | omega | decide)
      | refine ⟨_, Nat.lt_succ_self _, To.refl (.inl ⟨rfl, ?_⟩)⟩
      | refine ld140 hb ?_
      | (refine Side.mk ?_ ?_; · (simp; done))
      | fail
      )
  all_goals (conv => whnf)
  have hav : ∀ s : S8, ∀ c ∈ St.av ⟨s, b, 140⟩, noLoc c = true := fun s => dat (by simp [St.av, all_bs, noLoc])
  refine ⟨L54 s b, 43, To.gc [(0, true), (1, true)] [1, 2, 3, 4] rfl ⟨hav s, dat rfl, trivial⟩ ⟨0, by omega, rfl, .inl ⟨rfl, rfl, rfl⟩⟩, ?_⟩
  have hw : IntKind.i64.wrap ((140 : Nat) : Int) = 140 := rfl
  have hw' : IntKind.i64.wrap (140 : Int) = 140 := rfl
  rintro k fr H ⟨j, hj, rfl, h⟩
  have hd : ∀ j, ∀ c ∈ (128 :: List.replicate j 0).map B, noLoc c = true := fun j => dat_bs _
  by_cases hj3 : j < 43
  · have h2 : (128 :: List.replicate j 0).map B ++ [AV.int IntKind.u8 0] = (128 :: List.replicate (j + 1) 0).map B := by rw [List.replicate_succ']; simp
    rcases h with ⟨rfl, rfl, rfl⟩ | ⟨hj0, rfl, rfl⟩
    · repeat' ((conv => whnf); first
          | refine Branch.ofT rfl ?_
          | refine Branch.ofF rfl ?_
          | refine Branch.negdec (fun _ => ?_) (fun hn => absurd hn (by omega))
          | refine Branch.dec (fun h => ?_) (fun h => ?_)
          | refine Branch.negdec (fun h => ?_) (fun h => ?_)
          | refine Branch.neg (fun h => ?_) (fun h => ?_)
          | refine Branch.mk (fun h => ?_) (fun h => ?_)
          | (refine Side.mk ?_ ?_; · first | omega | decide)
          | (refine SideD.mk ?_ ?_; · first | omega | decide)
          | refine ⟨_, Nat.lt_succ_self _, To.refl (.inl ⟨rfl, ?_⟩)⟩
          | refine ld140 hb ?_
          | refine Side.mk ⟨by rfl, by simp, by unfold fits; omega, by simp [scal]⟩ ?_
          | (refine Side.mk ?_ ?_; · (simp; done))
          | fail
          )
      all_goals (conv => whnf)
      exact ⟨43 - (0 + 1), by omega, To.gc [(0, true), (1, true), (2, true)] [1, 2, 3, 4] rfl ⟨hav s, dat rfl, dat rfl, trivial⟩ ⟨0 + 1, by omega, rfl, .inr ⟨by omega, rfl, rfl⟩⟩⟩
    · repeat' ((conv => whnf); first
          | refine Branch.ofT rfl ?_
          | refine Branch.ofF rfl ?_
          | refine Branch.negdec (fun _ => ?_) (fun hn => absurd hn (by omega))
          | refine Branch.dec (fun h => ?_) (fun h => ?_)
          | refine Branch.negdec (fun h => ?_) (fun h => ?_)
          | refine Branch.neg (fun h => ?_) (fun h => ?_)
          | refine Branch.mk (fun h => ?_) (fun h => ?_)
          | (refine Side.mk ?_ ?_; · first | omega | decide)
          | (refine SideD.mk ?_ ?_; · first | omega | decide)
          | refine ⟨_, Nat.lt_succ_self _, To.refl (.inl ⟨rfl, ?_⟩)⟩
          | refine ld140 hb ?_
          | refine Side.mk (appB (by simp; omega) (by omega) (by simp [scal]) (by omega)) ?_
          | (refine Side.mk ?_ ?_; · (simp; done))
          | fail
          )
      all_goals (conv => whnf)
      exact ⟨43 - (j + 1), by omega, To.gc [(0, true), (1, true), (3, true)] [1, 2, 3, 4] rfl ⟨hav s, dat rfl, fun c hc => hd (j + 1) c (by rw [← h2]; exact hc), trivial⟩ ⟨j + 1, by omega, rfl, .inr ⟨by omega, rfl, by rw [← h2]; rfl⟩⟩⟩
  · have : j = 43 := by omega
    subst this
    rcases h with ⟨h, _⟩ | ⟨hj0, rfl, rfl⟩
    · omega
    have h3 : (128 :: List.replicate 43 0).map B ++ [AV.int IntKind.u8 0] ++ [AV.int IntKind.u8 0] ++ [AV.int IntKind.u8 0] ++ [AV.int IntKind.u8 0] ++ [AV.int IntKind.u8 0] ++ [AV.int IntKind.u8 0] ++ [AV.int IntKind.u8 4] ++ [AV.int IntKind.u8 96] = padT.map B := by
      unfold padT; simp
    generalize hcs : (128 :: List.replicate 43 0).map B = cs at h3 hd
    have hcl : cs.length = 44 := by rw [← hcs]; simp
    have h4 : ∀ l : List AV, l = padT.map B → List.take ((1 + 43 + 1 + 1 + 1 + 1 + 1 + 1 + 1 + 1) * 1) (List.drop 0 l) = padT.map B := by
      rintro _ rfl; rfl
    have hna : noLocL [.agg (St.av ⟨s, b, 140⟩), .str (txt padT)] = true := by simp [noLocL, noLoc, noLocL_av]
    repeat' ((conv => whnf); first
        | refine Branch.ofT rfl ?_
        | refine Branch.ofF rfl ?_
        | refine Branch.negdec (fun hn => absurd (by omega) hn) (fun _ => ?_)
        | refine Branch.dec (fun h => ?_) (fun h => ?_)
        | refine Branch.negdec (fun h => ?_) (fun h => ?_)
        | refine Branch.neg (fun h => ?_) (fun h => ?_)
        | refine Branch.mk (fun h => ?_) (fun h => ?_)
        | (refine Side.mk ?_ ?_; · first | omega | decide)
        | (refine SideD.mk ?_ ?_; · first | omega | decide)
        | refine ⟨_, Nat.lt_succ_self _, To.refl (.inl ⟨rfl, ?_⟩)⟩
        | refine ld140 hb ?_
        | refine Side.mk (appB (by simp [hcl]) (by omega) (by simp [scal]) (by omega)) ?_
        | refine Side.mk (by simp [hcl]) ?_
        | refine bres (h4 _ h3) ?_
        | refine tk65 hb ?_
        | refine CallA.pure h52 hna (noLocL_av σ2) ?_
        | refine tk65 h2 ?_
        | refine condT (by simp [av_len h2]) ?_
        | refine LoopA.unroll _ _ _ 33 ?_
        | refine lput65B hb (by simp [h2]) (scalAv σ2) ?_
        | (refine Side.mk ?_ ?_; · (simp; done))
        | fail
        )
    all_goals (conv => whnf)
    exact RetA.data rfl ⟨out_eq σ2.s, rfl⟩
theorem c54 (m : List Nat) (σ : St) (hσ : σ.ok) (h : Str m σ) (hm : m.length = 140) : CallA Tryd.prog 54 [.agg σ.av] Heap.nil fun v H' => v = .agg ((outN (absorb iv (padN m) 3)).map B) ∧ H' = Heap.nil := by
  obtain ⟨s, b, n⟩ := σ
  have hn : n = 140 := h.n.trans hm
  subst hn
  have hpl : padT.length = 52 := rfl
  have hpb : ∀ x ∈ padT, x < 256 := by decide
  have h52 := c52 ⟨s, b, 140⟩ padT hσ hpb (by rw [hpl]; show 140 + 52 ≤ _; omega)
  have hs := str_add padT.length (t := padT) (Nat.le_refl _) h
  rw [← padN_eq] at hs
  have hl : (padN m).length = 192 := by simp [padN, hm]
  have e := hs.s
  rw [hl] at e
  have := c54a s b _ h.l hs.l h52
  rw [e] at this
  exact this
end Go.Proofs

namespace Go.Proofs
open Go Go.Eng
set_option maxRecDepth 100000
set_option maxHeartbeats 4000000
/-! ### The program's digest -/
def zb : List Nat := List.replicate 64 0
def σ0 : St := ⟨iv, zb, 0⟩
theorem c51 : CallA Tryd.prog 51 [] Heap.nil fun v H' => v = .agg σ0.av ∧ H' = Heap.nil := by
  refine callA_of ok51 (Nat.le_of_ble_eq_true rfl) ?_
  repeat' ((conv => whnf); first
      | refine Branch.ofT rfl ?_
      | refine Branch.ofF rfl ?_
      | refine Branch.dec (fun h => ?_) (fun h => ?_)
      | refine Branch.negdec (fun h => ?_) (fun h => ?_)
      | refine Branch.neg (fun h => ?_) (fun h => ?_)
      | refine Branch.mk (fun h => ?_) (fun h => ?_)
      | (refine Side.mk ?_ ?_; · first | omega | decide)
      | (refine SideD.mk ?_ ?_; · first | omega | decide)
      | refine ⟨_, Nat.lt_succ_self _, To.refl (.inl ⟨rfl, ?_⟩)⟩
      | (refine Side.mk ?_ ?_; · (simp; done))
      | fail
      )
  all_goals (conv => whnf)
  exact RetA.data rfl ⟨rfl, rfl⟩
theorem c58_8 : CallA Tryd.prog 58 [I (8 : Nat)] Heap.nil fun v H' => v = .slice 0 0 1 none 1 ∧ H' = ⟨1, [(0, .cells ([16].map B))]⟩ := by
  refine callA_of ok58 (Nat.le_of_ble_eq_true rfl) ?_
  repeat' ((conv => whnf); first
      | refine Branch.ofT rfl ?_
      | refine Branch.ofF rfl ?_
      | refine Branch.ofF (decide_eq_false (by omega)) ?_
      | refine Branch.dec (fun h => ?_) (fun h => ?_)
      | refine Branch.negdec (fun h => ?_) (fun h => ?_)
      | refine Branch.neg (fun h => ?_) (fun h => ?_)
      | refine Branch.mk (fun h => ?_) (fun h => ?_)
      | (refine Side.mk ?_ ?_; · first | omega | decide)
      | (refine SideD.mk ?_ ?_; · first | omega | decide)
      | refine ⟨_, Nat.lt_succ_self _, To.refl (.inl ⟨rfl, ?_⟩)⟩
      | refine LoopA.unroll _ _ _ 3 ?_
      | refine Branch.ofF (by rfl) ?_
      | refine Side.mk ⟨by unfold fits; omega, by simp [scal]⟩ ?_
      | (refine Side.mk ?_ ?_; · (simp; done))
      | fail
      )
  all_goals (conv => whnf)
  exact RetA.gc [(0, true)] rfl ⟨dat rfl, trivial⟩ ⟨rfl, rfl⟩
theorem c58_128 : CallA Tryd.prog 58 [I (128 : Nat)] Heap.nil fun v H' => v = .slice 0 0 2 none 1 ∧ H' = ⟨1, [(0, .cells ([128, 2].map B))]⟩ := by
  refine callA_of ok58 (Nat.le_of_ble_eq_true rfl) ?_
  repeat' ((conv => whnf); first
      | refine Branch.ofT rfl ?_
      | refine Branch.ofF rfl ?_
      | refine Branch.ofF (decide_eq_false (by omega)) ?_
      | refine Branch.dec (fun h => ?_) (fun h => ?_)
      | refine Branch.negdec (fun h => ?_) (fun h => ?_)
      | refine Branch.neg (fun h => ?_) (fun h => ?_)
      | refine Branch.mk (fun h => ?_) (fun h => ?_)
      | (refine Side.mk ?_ ?_; · first | omega | decide)
      | (refine SideD.mk ?_ ?_; · first | omega | decide)
      | refine ⟨_, Nat.lt_succ_self _, To.refl (.inl ⟨rfl, ?_⟩)⟩
      | refine LoopA.unroll _ _ _ 3 ?_
      | refine Branch.ofF (by rfl) ?_
      | refine Side.mk ⟨by unfold fits; omega, by simp [scal]⟩ ?_
      | refine Side.mk (appB (by rfl) (by omega) (by simp [scal]) (by omega)) ?_
      | (refine Side.mk ?_ ?_; · (simp; done))
      | fail
      )
  all_goals (conv => whnf)
  exact RetA.gc [(1, true)] rfl ⟨dat rfl, trivial⟩ ⟨rfl, rfl⟩
theorem c53 (t e : List Nat) (k n : Nat) (ht : ∀ x ∈ t, x < 256) (hn : t.length = n) (h62 : CallA Tryd.prog 58 [I n] Heap.nil fun v H' => v = .slice 0 0 k none 1 ∧ H' = ⟨1, [(0, .cells (e.map B))]⟩) (hk : e.length = k) (hk1 : k ≤ 10) (ht0 : 0 < n) (ht1 : n ≤ 1000) : CallA Tryd.prog 53 [.str (txt t)] Heap.nil fun v H' => v = .dslice ((e ++ t).map B) (k + n) none ∧ H' = Heap.nil := by
  refine callA_of ok53 (Nat.le_of_ble_eq_true rfl) ?_
  have e1 := txt_size t
  have e2 : List.take ((txt t).size * 1) (strCells (txt t)) = t.map B := by rw [txt_cells ht, List.take_of_length_le (by simp [e1])]
  rw [hn] at e1
  rw [← e1] at h62
  repeat' ((conv => whnf); first
      | refine Branch.ofT rfl ?_
      | refine Branch.ofF rfl ?_
      | refine Branch.dec (fun h => ?_) (fun h => ?_)
      | refine Branch.negdec (fun h => ?_) (fun h => ?_)
      | refine Branch.neg (fun h => ?_) (fun h => ?_)
      | refine Branch.mk (fun h => ?_) (fun h => ?_)
      | (refine Side.mk ?_ ?_; · first | omega | decide)
      | (refine SideD.mk ?_ ?_; · first | omega | decide)
      | refine ⟨_, Nat.lt_succ_self _, To.refl (.inl ⟨rfl, ?_⟩)⟩
      | refine CallA.own h62 rfl (noLocL_bs e) ?_
      | refine Side.mk (by rw [txt_cells ht, List.length_map]; omega) ?_
      | refine Side.mk (appB (by simp; omega) (by omega) (by rw [e2]; exact scal_bs t) (by omega)) ?_
      | (refine Side.mk ?_ ?_; · (simp; done))
      | fail
      )
  all_goals (conv => whnf)
  refine RetA.pub 1 (ds := (e ++ t).map B) (by show AB.cells (e.map B ++ List.take ((txt t).size * 1) (strCells (txt t))) = _; rw [e2, List.map_append]) (dat_bs _) ?_
  refine RetA.data rfl ⟨?_, rfl⟩
  show AV.dslice ((((e ++ t).map B).drop 0).take ((k + (txt t).size) * 1)) (k + (txt t).size) none = _
  rw [e1, List.drop_zero, List.take_of_length_le (by simp; omega)]
theorem tk16 {o : List Nat} {off : Nat} {K : List AV → Prop} (e : off = 0) (h : o.length = 32) (hk : K ((o.take 16).map B)) : takeK 16 ((o.map B).drop off) K := by
  subst e
  rw [List.drop_zero, takeK_eq _ _ _ (by simp [h]), ← List.map_take]
  exact hk
theorem c45a (nb p o : List Nat) (cap : Option Nat) (σ1 σ2 σ3 : St) (l1 : σ1.b.length = 64) (l2 : σ2.b.length = 64) (l3 : σ3.b.length = 64) (hn : nb.length = 8) (hp : p.length = 128) (ho : o.length = 32)
    (h1 : CallA Tryd.prog 52 [.agg σ0.av, .str (txt [27])] Heap.nil fun v H' => v = .agg σ1.av ∧ H' = Heap.nil)
    (h2 : CallA Tryd.prog 52 [.agg σ1.av, .str (txt ([16] ++ nb))] Heap.nil fun v H' => v = .agg σ2.av ∧ H' = Heap.nil)
    (h3 : CallA Tryd.prog 52 [.agg σ2.av, .str (txt ([128, 2] ++ p))] Heap.nil fun v H' => v = .agg σ3.av ∧ H' = Heap.nil)
    (b1 : CallA Tryd.prog 53 [.str (txt nb)] Heap.nil fun v H' => v = .dslice (([16] ++ nb).map B) (1 + 8) none ∧ H' = Heap.nil)
    (b2 : CallA Tryd.prog 53 [.str (txt p)] Heap.nil fun v H' => v = .dslice (([128, 2] ++ p).map B) (2 + 128) none ∧ H' = Heap.nil)
    (h4 : CallA Tryd.prog 54 [.agg σ3.av] Heap.nil fun v H' => v = .agg (o.map B) ∧ H' = Heap.nil) :
    CallA Tryd.prog 45 [I 27, .dslice [.str (txt nb), .str (txt p)] 2 cap] Heap.nil fun v H' => v = .agg ((o.take 16).map B) ∧ H' = Heap.nil := by
  refine callA_of ok45 (Nat.le_of_ble_eq_true rfl) ?_
  have h16 : (o.take 16).length = 16 := by simp [ho]
  have na : ∀ (σ : St) (s : ByteArray), noLocL [.agg σ.av, .str s] = true := fun σ s => by simp [noLocL, noLoc, noLocL_av]
  have a1 : List.take ((1 + 8) * 1) (([16] ++ nb).map B) = ([16] ++ nb).map B := List.take_of_length_le (by simp; omega)
  have a2 : List.take ((2 + 128) * 1) (([128, 2] ++ p).map B) = ([128, 2] ++ p).map B := List.take_of_length_le (by simp; omega)
  repeat' ((conv => whnf); first
      | refine Branch.ofT rfl ?_
      | refine Branch.ofF rfl ?_
      | refine Branch.dec (fun h => ?_) (fun h => ?_)
      | refine Branch.negdec (fun h => ?_) (fun h => ?_)
      | refine Branch.neg (fun h => ?_) (fun h => ?_)
      | refine Branch.mk (fun h => ?_) (fun h => ?_)
      | (refine Side.mk ?_ ?_; · first | omega | decide)
      | (refine SideD.mk ?_ ?_; · first | omega | decide)
      | refine ⟨_, Nat.lt_succ_self _, To.refl (.inl ⟨rfl, ?_⟩)⟩
      | refine QCallA.of c51 rfl (noLocL_av σ0) ?_
      | refine bres (t := [27]) (by rfl) ?_
      | refine QCallA.of h1 (na _ _) (noLocL_av σ1) ?_
      | refine condT (by rw [av_len l1]; rfl) ?_
      | refine condT (by rw [av_len l2]; rfl) ?_
      | refine condT (by rw [av_len l3]; rfl) ?_
      | refine lputA (by simp [l1]) (List.all_eq_true.2 (scalAv σ1)) ?_
      | refine lput65B l1 (by simp [l2]) (scalAv σ2) ?_
      | refine lput65B l2 (by simp [l3]) (scalAv σ3) ?_
      | refine LoopA.unroll _ _ _ 3 ?_
      | refine tk65 l1 ?_
      | refine tk65 l2 ?_
      | refine tk65 l3 ?_
      | refine QCallA.of b1 rfl (by simp [noLoc, noLocL_bs]) ?_
      | refine QCallA.of b2 rfl (by simp [noLoc, noLocL_bs]) ?_
      | refine bres a1 ?_
      | refine bres a2 ?_
      | refine Side.mk (by rw [List.length_map, List.length_append, List.length_cons, List.length_nil, hn]; omega) ?_
      | refine Side.mk (by rw [List.length_map, List.length_append, List.length_cons, List.length_cons, List.length_nil, hp]; omega) ?_
      | refine QCallA.of h2 (na _ _) (noLocL_av σ2) ?_
      | refine QCallA.of h3 (na _ _) (noLocL_av σ3) ?_
      | refine CallA.pure h4 (by simp [noLocL, noLoc, noLocL_av]) (noLocL_bs o) ?_
      | refine condT (by rw [List.length_map, ho]; rfl) ?_
      | refine lputA (by rw [List.length_map, ho]; rfl) (by rw [List.all_eq_true]; exact scal_bs o) ?_
      | refine Side.mk (by rw [List.length_map, ho]; omega) ?_
      | refine tk16 (by rfl) ho ?_
      | refine condT (by rw [List.length_map, h16]; rfl) ?_
      | refine lputA (by rw [List.length_map, h16]; rfl) (by rw [List.all_eq_true]; exact scal_bs _) ?_
      | refine tkBn h16 ?_
      | (refine Side.mk ?_ ?_; · (simp; done))
      | fail
      )
  all_goals (conv => whnf)
  exact RetA.data (v := .agg ((o.take 16).map B)) (noLocL_bs _) ⟨rfl, rfl⟩
theorem σ0_ok : σ0.ok := ⟨iv_ok, rfl, by decide⟩
theorem str0 : Str [] σ0 := ⟨rfl, rfl, rfl, rfl⟩
theorem c45 (nb p : List Nat) (cap : Option Nat) (hn : nb.length = 8) (hp : p.length = 128) (hnb : ∀ x ∈ nb, x < 256) (hpb : ∀ x ∈ p, x < 256) : CallA Tryd.prog 45 [I 27, .dslice [.str (txt nb), .str (txt p)] 2 cap] Heap.nil fun v H' => v = .agg ((dig (msg nb p)).map B) ∧ H' = Heap.nil := by
  have t1 : ∀ x ∈ [27], x < 256 := by decide
  have t2 : ∀ x ∈ [16] ++ nb, x < 256 := by
    intro x hx; rcases List.mem_append.1 hx with h | h
    · rw [List.mem_singleton.1 h]; omega
    · exact hnb x h
  have t3 : ∀ x ∈ [128, 2] ++ p, x < 256 := by
    intro x hx; rcases List.mem_append.1 hx with h | h
    · simp only [List.mem_cons, List.not_mem_nil, or_false] at h; omega
    · exact hpb x h
  have s1 := str_add [27].length (t := [27]) (Nat.le_refl _) str0
  have s2 := str_add ([16] ++ nb).length (t := [16] ++ nb) (Nat.le_refl _) s1
  have s3 := str_add ([128, 2] ++ p).length (t := [128, 2] ++ p) (Nat.le_refl _) s2
  have o1 := add_ok [27].length t1 σ0_ok
  have o2 := add_ok ([16] ++ nb).length t2 o1
  have o3 := add_ok ([128, 2] ++ p).length t3 o2
  have h1 := c52 σ0 [27] σ0_ok t1 (by decide)
  have h2 := c52 _ ([16] ++ nb) o1 t2 (by rw [s1.n]; simp; omega)
  have h3 := c52 _ ([128, 2] ++ p) o2 t3 (by rw [s2.n]; simp; omega)
  have hm : [] ++ [27] ++ ([16] ++ nb) ++ ([128, 2] ++ p) = msg nb p := by simp [msg]
  rw [hm] at s3
  have h4 := c54 (msg nb p) _ o3 s3 (msg_len hn hp)
  exact c45a nb p _ cap _ _ _ s1.l s2.l s3.l hn hp (by simp [outN, out4]) h1 h2 h3 (c53 nb [16] 1 8 hnb hn c58_8 rfl (by omega) (by omega) (by omega)) (c53 p [128, 2] 2 128 hpb hp c58_128 rfl (by omega) (by omega) (by omega)) h4
end Go.Proofs

