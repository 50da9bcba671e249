/- Part of a proof about the given program: lemmas that the other parts use. -/
import Derived.Test.YtblohbcoclhbhaaGreatPart3
import Derived.Test.YtblohbcoclhbhaaGreatProg
import Derived.KernelRfl
import Derived.Test.YtblohbcoclhbhaaGreatPart4

set_option linter.all false
set_option linter.unusedSimpArgs false
set_option linter.unusedVariables false
set_option maxRecDepth 100000
namespace Go.Proofs
open Go Go.Eng
def ac187 : AC := (.seq (.reg [sm 4 (.p (.mov (.c zu3)))])
 (.seq (.reg [mv 5 0, mv 6 1, sm 7 (.p (.binw .add (.t 5) (.t 6))), mv 4 7])
 .ret))
def rs187 : List AR := [.tmp 4]
theorem ok187 : okF Tryz.prog 187 8 ac187 rs187 = true := by kernel_rfl
def ac188 : AC := (.seq (.reg [sm 4 (.p (.mov (.c zu3)))])
 (.seq (.reg [mv 5 0, mv 6 1, sm 7 (.p (.binw .sub (.t 5) (.t 6))), mv 4 7])
 .ret))
def rs188 : List AR := [.tmp 4]
theorem ok188 : okF Tryz.prog 188 8 ac188 rs188 = true := by kernel_rfl
def ac189 : AC := (.seq (.reg [sm 4 (.p (.mov (.c zu3)))])
 (.seq (.reg [mv 5 0, mv 6 1, sm 7 (.p (.binw .and (.t 5) (.t 6))), mv 4 7])
 .ret))
def rs189 : List AR := [.tmp 4]
theorem ok189 : okF Tryz.prog 189 8 ac189 rs189 = true := by kernel_rfl
def ac190 : AC := (.seq (.reg [sm 4 (.p (.mov (.c zu3)))])
 (.seq (.reg [mv 5 0, mv 6 1, sm 7 (.p (.binw .or (.t 5) (.t 6))), mv 4 7])
 .ret))
def rs190 : List AR := [.tmp 4]
theorem ok190 : okF Tryz.prog 190 8 ac190 rs190 = true := by kernel_rfl
def ac191 : AC := (.seq (.reg [sm 4 (.p (.mov (.c zu3)))])
 (.seq (.reg [mv 5 0, mv 6 1, sm 7 (.p (.binw .xor (.t 5) (.t 6))), mv 4 7])
 .ret))
def rs191 : List AR := [.tmp 4]
theorem ok191 : okF Tryz.prog 191 8 ac191 rs191 = true := by kernel_rfl
def ac192 : AC := (.seq (.reg [sm 4 (.p (.mov (.c zu3)))])
 (.seq (.reg [mv 5 0, mv 6 1, sm 7 (.p (.binw .and (.t 6) (.c (.int .u32 31)))), sm 8 (.p (.binw .shl (.t 5) (.t 7))), mv 4 8])
 .ret))
def rs192 : List AR := [.tmp 4]
theorem ok192 : okF Tryz.prog 192 9 ac192 rs192 = true := by kernel_rfl
def ac193 : AC := (.seq (.reg [sm 4 (.p (.mov (.c zu3)))])
 (.seq (.reg [mv 5 0, mv 6 1, sm 7 (.p (.binw .and (.t 6) (.c (.int .u32 31)))), sm 8 (.p (.binw .shr (.t 5) (.t 7))), mv 4 8])
 .ret))
def rs193 : List AR := [.tmp 4]
theorem ok193 : okF Tryz.prog 193 9 ac193 rs193 = true := by kernel_rfl
def ac194 : AC := (.seq (.reg [sm 4 (.p (.mov (.c zu3)))])
 (.seq (.reg [mv 5 0, mv 6 1, sm 7 (.p (.binw .mul (.t 5) (.t 6))), mv 4 7])
 .ret))
def rs194 : List AR := [.tmp 4]
theorem ok194 : okF Tryz.prog 194 8 ac194 rs194 = true := by kernel_rfl
def ac195 : AC := (.seq (.reg [sm 4 (.p (.mov (.c zu3)))])
 (.seq (.seq (.reg [mv 5 1, sm 6 (.p (.binw .eql (.t 5) (.c zu3)))])
 (.cond (.t 6) (.seq (.reg [mv 7 1, sm 8 (.p (.un .xor (.t 7))), mv 4 8])
 .ret) .skip))
 (.seq (.reg [mv 9 0, mv 10 1, sm 11 (.p (.binw .quo (.t 9) (.t 10))), mv 4 11])
 .ret)))
def rs195 : List AR := [.tmp 4]
theorem ok195 : okF Tryz.prog 195 12 ac195 rs195 = true := by kernel_rfl
def ac196 : AC := (.seq (.reg [sm 4 (.p (.mov (.c zu3)))])
 (.seq (.seq (.reg [mv 5 1, sm 6 (.p (.binw .eql (.t 5) (.c zu3)))])
 (.cond (.t 6) (.seq (.reg [mv 7 0, mv 4 7])
 .ret) .skip))
 (.seq (.reg [mv 8 0, mv 9 1, sm 10 (.p (.binw .rem (.t 8) (.t 9))), mv 4 10])
 .ret)))
def rs196 : List AR := [.tmp 4]
theorem ok196 : okF Tryz.prog 196 11 ac196 rs196 = true := by kernel_rfl
def ac197 : AC := (.seq (.reg [sm 4 (.p (.mov (.c zu3)))])
 (.seq (.reg [mv 5 0, sm 6 (.p (.convw .i32 (.t 5))), mv 7 1, sm 8 (.p (.convw .i32 (.t 7))), sm 9 (.call 184 [(.t 6), (.t 8)]), mv 4 9])
 .ret))
def rs197 : List AR := [.tmp 4]
theorem ok197 : okF Tryz.prog 197 10 ac197 rs197 = true := by kernel_rfl
def ac198 : AC := (.seq (.reg [sm 4 (.p (.mov (.c zu3)))])
 (.seq (.reg [mv 5 0, mv 6 1, sm 7 (.call 185 [(.t 5), (.t 6)]), mv 4 7])
 .ret))
def rs198 : List AR := [.tmp 4]
theorem ok198 : okF Tryz.prog 198 8 ac198 rs198 = true := by kernel_rfl
def rfA2140 : AC := (.reg [sm 2 (.h (.alloc [zi6, .nils, zi6])), st 3 2 15])
def rfB2140 : AC := (.block 1 (.seq (.seq (.reg [fa 16 2 2, ld 17 16, sm 18 (.p (.bin .neq (.t 17) (.c zi6)))])
 (.cond (.t 18) (.exit 1) .skip))
 (.seq (.seq (.reg [fa 19 1 2, ld 20 19, sm 21 (.call 118 [(.t 20), (.c (.bool false)), (.c zi6), (.c (.int .i64 512))]), mv 3 21])
 (.seq (.reg [mv 22 3, sm 23 (.p (.bin .neq (.t 22) (.c zi6)))])
 (.cond (.t 23) (.seq (.draw 9 [] [ld 24 1, ld 25 1, sm 26 (.p (.nilchk (.t 25))), fa 27 5 26, fa 28 0 27, la 29 2 28, fa 30 0 2, ld 31 30, mv 32 3, sm 33 (.call 119 [(.t 24), (.t 29), (.t 31), (.t 32)])])
 (.exit 1)) .skip)))
 (.seq (.draw 20 [(13, 14), (10, 14), (12, 14), (6, 14), (5, 15), (14, 15), (13, 15), (10, 15), (12, 15), (6, 15), (1, 15), (15, 19), (0, 19), (1, 19), (5, 19), (6, 19), (10, 19), (12, 19), (13, 19), (14, 19)] [ld 34 1, ld 35 1, sm 36 (.p (.nilchk (.t 35))), fa 37 0 36, fa 38 2 37, ld 39 38, ld 40 1, sm 41 (.p (.nilchk (.t 40))), fa 42 0 41, fa 43 0 42, la 44 1 43, fa 45 1 2, ld 46 45, sm 47 (.call 101 [(.t 44), (.t 46)]), sm 48 (.d (.bslice 1 1 [(.str .empty)] [(0, (.t 47))])), sm 49 (.l (.append 1 16 (.t 39) (.t 48))), sm 50 (.p (.nilchk (.t 34))), fa 51 0 50, fa 52 2 51, st 1 52 49])
 (.draw 18 [(13, 17), (0, 17), (1, 17), (5, 17), (6, 17), (10, 17), (12, 17)] [ld 53 1, ld 54 1, sm 55 (.p (.nilchk (.t 54))), fa 56 0 55, fa 57 0 56, la 58 1 57, ld 59 1, sm 60 (.p (.nilchk (.t 59))), fa 61 5 60, fa 62 0 61, la 63 2 62, fa 64 1 2, ld 65 64, sm 66 (.call 104 [(.t 58), (.t 63), (.t 65)]), sm 67 (.p (.nilchk (.t 53))), fa 68 0 67, fa 69 0 68, st 1 69 66])))))
def ac214 : AC := (.seq (.reg [sm 1 (.h (.box (.t 0)))])
 (.seq (.draw 10 [] [ld 4 1, ld 5 1, sm 6 (.p (.nilchk (.t 5))), fa 7 5 6, fa 8 0 7, la 9 2 8, ld 10 1, sm 11 (.p (.nilchk (.t 10))), fa 12 5 11, fa 13 4 12, sm 14 (.call 99 [(.t 4), (.t 9), (.t 13)])])
 (.block 0 (.rangeF 2140 (.t 14) [1] [15] rfA2140 rfB2140))))
def rs214 : List AR := []
theorem ok214 : okF Tryz.prog 214 70 ac214 rs214 = true := by kernel_rfl
def ac216 : AC := (.seq (.reg [sm 3 (.h (.box (.t 0))), sm 6 (.p (.mov (.c .nils)))])
 (.seq (.reg [sm 7 (.p (.mov (.c .nils)))])
 (.seq (.seq (.reg [mv 10 2, sm 11 (.p (.len false (.t 10))), sm 12 (.p (.mov (.c zi6)))])
 (.block 0 (.loop (.seq (.reg [sm 13 (.p (.bin .lss (.t 12) (.t 11)))])
 (.seq (.cond (.t 13) .skip (.exit 0))
 (.seq (.block 1 (.seq (.reg [sm 14 (.p (.idxA 1 none (.t 10) (.t 12))), ld 15 14, mv 9 15])
 (.reg [mv 16 7, mv 17 1, fa 18 44 3, ld 19 18, fa 20 45 3, ld 21 20, mv 22 9, sm 23 (.v (.build [zi6, zi6, zi6, zi6, (.str .empty)] [(1, 1, (.t 17)), (2, 1, (.t 19)), (3, 1, (.t 21)), (4, 1, (.t 22))])), sm 24 (.d (.bslice 5 1 [zi6, zi6, zi6, zi6, (.str .empty)] [(0, (.t 23))])), sm 25 (.l (.append 5 48 (.t 16) (.t 24))), mv 7 25])))
 (.reg [sm 26 (.p (.bin .add (.t 12) (.c (.int .i64 1)))), mv 12 26])))))))
 (.seq (.reg [mv 27 7, mv 6 27])
 .ret))))
def rs216 : List AR := [.tmp 6]
theorem ok216 : okF Tryz.prog 216 28 ac216 rs216 = true := by kernel_rfl
def ac217 : AC := (.seq (.reg [sm 1 (.h (.box (.t 0))), sm 2 (.h (.alloc [zi6, zu3, zu3, zu3, zu3, zu3, zu3, zu3, zu3, zi6, zi6, zi6, zi6, zi6, zi6, (.bool false), (.bool false), (.bool false), (.bool false), zi6, zi6, zi6, zi6, zi6, zi6, zi6, zi6, (.str .empty), zi6, zu3, zu3, zi6, zi6, .nils, .nils, zu3, zu3, zu3, zu3, zi6, zi6, zi6, zi6])), sm 3 (.h (.alloc [.nils, zu3, .nils, zi6]))])
 (.seq (.reg [fa 8 0 1, fa 9 0 8, fa 10 0 9, la 11 14 10, fa 12 0 1, fa 13 44 12, ld 14 13, fa 15 0 1, fa 16 46 15, la 17 3 16, sm 18 (.call 218 [(.t 11), (.t 14), (.t 17)]), mv 7 18, sm 19 (.p (.extract 0 (.t 7))), sm 20 (.p (.extract 1 (.t 7))), sm 21 (.p (.extract 2 (.t 7))), sm 4 (.h (.alloc [zi6, zu3, zu3, zu3, zu3, zu3, zu3, zu3, zu3, zi6, zi6, zi6, zi6, zi6])), st 14 4 19, mv 5 20, mv 6 21])
 (.seq (.seq (.reg [mv 22 6, sm 23 (.p (.bin .neq (.t 22) (.c zi6)))])
 (.cond (.t 23) (.seq (.reg [fa 24 0 1, la 25 49 24, mv 26 6, sm 27 (.call 129 [(.t 25), (.t 26)]), sm 28 (.p (.extract 0 (.t 27))), sm 29 (.p (.extract 1 (.t 27))), st 43 2 28, st 4 3 29])
 .ret) .skip))
 (.seq (.reg [la 30 14 4, fa 31 0 1, fa 32 0 31, fa 33 0 32, st 14 33 30])
 (.seq (.draw 10 [(2, 8), (8, 9), (2, 9), (5, 9)] [fa 34 0 1, fa 35 0 34, la 36 43 35, fa 37 0 1, fa 38 43 37, la 39 1 38, mv 40 5, sm 41 (.v (.build [.nils, zu3, .nils, zi6] [(0, 1, (.t 39)), (1, 1, (.t 40))])), st 43 2 36, st 4 3 41])
 .ret)))))
def rs217 : List AR := [.cell 2 true 43, .cell 3 true 4]
theorem ok217 : okF Tryz.prog 217 42 ac217 rs217 = true := by kernel_rfl
def ac218 : AC := (.seq (.reg [sm 3 (.h (.box (.t 0))), sm 5 (.h (.box (.t 2))), sm 6 (.h (.alloc [zi6, zu3, zu3, zu3, zu3, zu3, zu3, zu3, zu3, zi6, zi6, zi6, zi6, zi6])), sm 7 (.p (.mov (.c zu3))), sm 8 (.p (.mov (.c zi6)))])
 (.seq (.reg [la 14 14 3, mv 15 1, sm 16 (.v (.build [zi6, zu3, zu3, zu3, zu3, zu3, zu3, zu3, zu3, zi6, zi6, zi6, zi6, zi6, zi6] [(0, 14, (.t 14)), (14, 1, (.t 15))])), sm 17 (.h (.box (.t 16))), mv 9 17])
 (.seq (.seq (.reg [fa 18 0 5, ld 19 18])
 (.cond (.t 19) (.seq (.reg [sm 21 (.m .mk), mv 22 9, sm 23 (.p (.mkme 219 [(.t 22)])), ⟨none, .m (.set (.c (.i .i64)) (.t 21) (.c zi6) (.t 23)), none⟩, mv 24 9, sm 25 (.p (.mkme 220 [(.t 24)])), ⟨none, .m (.set (.c (.i .i64)) (.t 21) (.c (.int .i64 1)) (.t 25)), none⟩, mv 26 21, fa 27 1 5, ld 28 27, sm 29 (.m (.get true (.c (.i .i64)) .nilf (.t 26) (.t 28))), mv 20 29, sm 30 (.p (.extract 0 (.t 20))), sm 31 (.p (.extract 1 (.t 20))), mv 10 30, mv 11 31])
 (.seq (.seq (.reg [mv 32 11, sm 33 (.p (.un .not (.t 32)))])
 (.cond (.t 33) (.seq (.reg [la 34 14 3, st 14 6 34, sm 7 (.p (.mov (.c zu3))), sm 8 (.p (.mov (.c (.int .i64 5))))])
 .ret) .skip))
 (.seq (.draw 2 [] [la 35 14 3, mv 36 10, sm 37 (.callv (.t 36) []), st 14 6 35, mv 7 37, sm 8 (.p (.mov (.c zi6)))])
 .ret))) .skip))
 (.seq (.reg [sm 39 (.m .mk), mv 40 9, sm 41 (.p (.mkme 221 [(.t 40)])), ⟨none, .m (.set (.c (.i .i64)) (.t 39) (.c zi6) (.t 41)), none⟩, mv 42 9, sm 43 (.p (.mkme 222 [(.t 42)])), ⟨none, .m (.set (.c (.i .i64)) (.t 39) (.c (.int .i64 2)) (.t 43)), none⟩, mv 44 9, sm 45 (.p (.mkme 223 [(.t 44)])), ⟨none, .m (.set (.c (.i .i64)) (.t 39) (.c (.int .i64 3)) (.t 45)), none⟩, mv 46 9, sm 47 (.p (.mkme 224 [(.t 46)])), ⟨none, .m (.set (.c (.i .i64)) (.t 39) (.c (.int .i64 4)) (.t 47)), none⟩, mv 48 39, fa 49 1 5, ld 50 49, sm 51 (.m (.get true (.c (.i .i64)) .nilf (.t 48) (.t 50))), mv 38 51, sm 52 (.p (.extract 0 (.t 38))), sm 53 (.p (.extract 1 (.t 38))), mv 12 52, mv 13 53])
 (.seq (.seq (.reg [mv 54 13, sm 55 (.p (.un .not (.t 54)))])
 (.cond (.t 55) (.seq (.reg [la 56 14 3, st 14 6 56, sm 7 (.p (.mov (.c zu3))), sm 8 (.p (.mov (.c (.int .i64 5))))])
 .ret) .skip))
 (.seq (.reg [mv 57 12, fa 58 2 5, ld 59 58, sm 60 (.callv (.t 57) [(.t 59)])])
 (.seq (.reg [mv 61 9, sm 62 (.p (.nilchk (.t 61))), fa 63 0 62, la 64 14 63, st 14 6 64, sm 7 (.p (.mov (.c zu3))), sm 8 (.p (.mov (.c zi6)))])
 .ret)))))))
def rs218 : List AR := [.cell 6 true 14, .tmp 7, .tmp 8]
-- ok218
def ac219 : AC := (.seq (.reg [sm 2 (.p (.mov (.c zu3)))])
 (.seq (.draw 11 [] [mv 3 0, mv 4 0, sm 5 (.p (.nilchk (.t 4))), fa 6 14 5, ld 7 6, sm 8 (.p (.nilchk (.t 3))), fa 9 0 8, fa 10 5 9, sm 11 (.p (.idxA 1 (some 4) (.t 10) (.t 7))), ld 12 11, mv 2 12])
 .ret))
def rs219 : List AR := [.tmp 2]
theorem ok219 : okF Tryz.prog 219 13 ac219 rs219 = true := by kernel_rfl
def ac220 : AC := (.seq (.reg [sm 2 (.p (.mov (.c zu3)))])
 (.seq (.draw 10 [] [mv 3 0, sm 4 (.p (.nilchk (.t 3))), fa 5 0 4, la 6 14 5, mv 7 0, sm 8 (.p (.nilchk (.t 7))), fa 9 14 8, ld 10 9, sm 11 (.call 127 [(.t 6), (.t 10)]), mv 2 11])
 .ret))
def rs220 : List AR := [.tmp 2]
theorem ok220 : okF Tryz.prog 220 12 ac220 rs220 = true := by kernel_rfl
def ac221 : AC := (.draw 12 [(4, 11)] [mv 4 0, mv 5 0, sm 6 (.p (.nilchk (.t 5))), fa 7 14 6, ld 8 7, mv 9 1, sm 10 (.p (.binw .and (.t 9) (.c (.int .u32 31)))), sm 11 (.p (.nilchk (.t 4))), fa 12 0 11, fa 13 5 12, sm 14 (.p (.idxA 1 (some 4) (.t 13) (.t 8))), st 1 14 10])
def rs221 : List AR := []
theorem ok221 : okF Tryz.prog 221 15 ac221 rs221 = true := by kernel_rfl
def ac222 : AC := (.seq (.reg [mv 4 1, sm 5 (.p (.binw .lss (.t 4) (.c (.int .u32 5))))])
 (.cond (.t 5) (.draw 18 [(4, 17), (9, 17)] [mv 6 0, mv 7 0, sm 8 (.p (.nilchk (.t 7))), fa 9 14 8, ld 10 9, sm 11 (.p (.nilchk (.t 6))), fa 12 0 11, fa 13 1 12, sm 14 (.p (.idxA 1 (some 4) (.t 13) (.t 10))), ld 15 14, mv 16 1, sm 17 (.p (.binw .shl (.c (.int .u32 1)) (.t 16))), sm 18 (.p (.binw .andNot (.t 15) (.t 17))), sm 19 (.p (.nilchk (.t 6))), fa 20 0 19, fa 21 1 20, sm 22 (.p (.idxA 1 (some 4) (.t 21) (.t 10))), st 1 22 18]) .skip))
def rs222 : List AR := []
theorem ok222 : okF Tryz.prog 222 23 ac222 rs222 = true := by kernel_rfl
def ac223 : AC := (.seq (.reg [mv 4 1, mv 5 0, sm 6 (.p (.nilchk (.t 5))), fa 7 0 6, fa 8 0 7, ld 9 8, sm 10 (.p (.convw .u32 (.t 9))), sm 11 (.p (.binw .lss (.t 4) (.t 10)))])
 (.cond (.t 11) (.reg [mv 12 0, mv 13 0, sm 14 (.p (.nilchk (.t 13))), fa 15 0 14, la 16 14 15, mv 17 1, sm 18 (.p (.conv .i64 (.t 17))), sm 19 (.call 98 [(.t 16), (.c (.int .i64 4)), (.t 18)]), sm 20 (.p (.nilchk (.t 12))), fa 21 0 20, st 14 21 19]) .skip))
def rs223 : List AR := []
theorem ok223 : okF Tryz.prog 223 22 ac223 rs223 = true := by kernel_rfl
def ac224 : AC := (.seq (.reg [mv 4 1, sm 5 (.p (.binw .quo (.t 4) (.c (.int .u32 16)))), sm 6 (.call 112 [(.t 5)]), mv 7 6, ⟨some 8, .p (.mov (.t 1)), (some (7, true))⟩, ⟨some 9, .p (.binw .rem (.t 8) (.c (.int .u32 16))), (some (7, true))⟩, ⟨some 10, .p (.mov (.t 0)), (some (7, true))⟩, ⟨some 11, .p (.nilchk (.t 10)), (some (7, true))⟩, ⟨some 12, .p (.fieldA 0 (.t 11)), (some (7, true))⟩, ⟨some 13, .p (.fieldA 0 (.t 12)), (some (7, true))⟩, ⟨some 14, .h (.load false 1 (.t 13)), (some (7, true))⟩, ⟨some 15, .p (.convw .u32 (.t 14)), (some (7, true))⟩, ⟨some 16, .p (.binw .lss (.t 9) (.t 15)), (some (7, true))⟩, sm 17 (.p (.pick (.t 7) (.t 16) (.c (.bool false))))])
 (.cond (.t 17) (.reg [mv 18 0, mv 19 1, sm 20 (.p (.binw .quo (.t 19) (.c (.int .u32 16)))), mv 21 1, sm 22 (.p (.binw .rem (.t 21) (.c (.int .u32 16)))), sm 23 (.p (.conv .i64 (.t 22))), sm 24 (.p (.nilchk (.t 18))), fa 25 0 24, fa 26 9 25, sm 27 (.p (.idxA 1 (some 5) (.t 26) (.t 20))), st 1 27 23]) .skip))
def rs224 : List AR := []
theorem ok224 : okF Tryz.prog 224 28 ac224 rs224 = true := by kernel_rfl
def ac225 : AC := (.seq (.reg [sm 1 (.h (.box (.t 0))), sm 2 (.h (.alloc [zi6, zu3, zu3, zu3, zu3, zu3, zu3, zu3, zu3, zi6, zi6, zi6, zi6, zi6, zi6, (.bool false), (.bool false), (.bool false), (.bool false), zi6, zi6, zi6, zi6, zi6, zi6, zi6, zi6, (.str .empty), zi6, zu3, zu3, zi6, zi6, .nils, .nils, zu3, zu3, zu3, zu3, zi6, zi6, zi6, zi6])), sm 3 (.h (.alloc [.nils, zu3, .nils, zi6]))])
 (.seq (.reg [fa 8 0 1, fa 9 0 8, fa 10 14 9, la 11 13 10, fa 12 0 1, fa 13 44 12, ld 14 13, fa 15 0 1, fa 16 45 15, ld 17 16, fa 18 0 1, fa 19 46 18, la 20 3 19, sm 21 (.call 226 [(.t 11), (.t 14), (.t 17), (.t 20)]), mv 7 21, sm 22 (.p (.extract 0 (.t 7))), sm 23 (.p (.extract 1 (.t 7))), sm 24 (.p (.extract 2 (.t 7))), sm 4 (.h (.alloc [zi6, (.bool false), (.bool false), (.bool false), (.bool false), zi6, zi6, zi6, zi6, zi6, zi6, zi6, zi6])), st 13 4 22, mv 5 23, mv 6 24])
 (.seq (.seq (.reg [mv 25 6, sm 26 (.p (.bin .neq (.t 25) (.c zi6)))])
 (.cond (.t 26) (.seq (.reg [fa 27 0 1, la 28 49 27, mv 29 6, sm 30 (.call 129 [(.t 28), (.t 29)]), sm 31 (.p (.extract 0 (.t 30))), sm 32 (.p (.extract 1 (.t 30))), st 43 2 31, st 4 3 32])
 .ret) .skip))
 (.seq (.reg [la 33 13 4, fa 34 0 1, fa 35 0 34, fa 36 14 35, st 13 36 33])
 (.seq (.draw 10 [(2, 8), (8, 9), (2, 9), (5, 9)] [fa 37 0 1, fa 38 0 37, la 39 43 38, fa 40 0 1, fa 41 43 40, la 42 1 41, mv 43 5, sm 44 (.v (.build [.nils, zu3, .nils, zi6] [(0, 1, (.t 42)), (1, 1, (.t 43))])), st 43 2 39, st 4 3 44])
 .ret)))))
def rs225 : List AR := [.cell 2 true 43, .cell 3 true 4]
theorem ok225 : okF Tryz.prog 225 45 ac225 rs225 = true := by kernel_rfl
def ac226 : AC := (.seq (.reg [sm 4 (.h (.box (.t 0))), sm 7 (.h (.box (.t 3))), sm 8 (.h (.alloc [zi6, (.bool false), (.bool false), (.bool false), (.bool false), zi6, zi6, zi6, zi6, zi6, zi6, zi6, zi6])), sm 9 (.p (.mov (.c zu3))), sm 10 (.p (.mov (.c zi6)))])
 (.seq (.block 0 (.seq (.reg [fa 14 0 7, ld 15 14, mv 16 15, ⟨some 17, .p (.fieldA 1 (.t 7)), (some (16, true))⟩, ⟨some 18, .h (.load false 1 (.t 17)), (some (16, true))⟩, ⟨some 19, .p (.bin .eql (.t 18) (.c (.int .i64 16))), (some (16, true))⟩, sm 20 (.p (.pick (.t 16) (.t 19) (.c (.bool false)))), mv 13 20])
 (.cond (.t 13) (.seq (.reg [la 21 13 4, mv 22 1, sm 23 (.call 227 [(.t 21), (.t 22)]), sm 24 (.p (.extract 0 (.t 23))), sm 25 (.p (.extract 1 (.t 23))), sm 26 (.p (.extract 2 (.t 23))), st 13 8 24, mv 9 25, mv 10 26])
 .ret) (.seq (.reg [fa 28 0 7, ld 29 28, sm 30 (.p (.un .not (.t 29))), mv 31 30, ⟨some 32, .p (.fieldA 1 (.t 7)), (some (31, true))⟩, ⟨some 33, .h (.load false 1 (.t 32)), (some (31, true))⟩, ⟨some 34, .p (.bin .eql (.t 33) (.c (.int .i64 17))), (some (31, true))⟩, sm 35 (.p (.pick (.t 31) (.t 34) (.c (.bool false)))), mv 27 35])
 (.cond (.t 27) (.seq (.reg [la 37 13 4, mv 38 1, mv 39 2, fa 40 2 7, ld 41 40, sm 42 (.call 228 [(.t 37), (.t 38), (.t 39), (.t 41)]), mv 36 42, sm 43 (.p (.extract 0 (.t 36))), sm 44 (.p (.extract 1 (.t 36))), sm 11 (.h (.alloc [zi6, (.bool false), (.bool false), (.bool false), (.bool false), zi6, zi6, zi6, zi6, zi6, zi6, zi6, zi6])), st 13 11 43, mv 12 44])
 (.seq (.reg [la 45 13 11, mv 46 12, st 13 8 45, sm 9 (.p (.mov (.c zu3))), mv 10 46])
 .ret)) .skip)))))
 (.seq (.reg [la 47 13 4, st 13 8 47, sm 9 (.p (.mov (.c zu3))), sm 10 (.p (.mov (.c (.int .i64 5))))])
 .ret)))
def rs226 : List AR := [.cell 8 true 13, .tmp 9, .tmp 10]
theorem ok226 : okF Tryz.prog 226 48 ac226 rs226 = true := by kernel_rfl
def ac227 : AC := (.seq (.reg [sm 2 (.h (.box (.t 0))), sm 4 (.h (.alloc [zi6, (.bool false), (.bool false), (.bool false), (.bool false), zi6, zi6, zi6, zi6, zi6, zi6, zi6, zi6])), sm 5 (.p (.mov (.c zu3))), sm 6 (.p (.mov (.c zi6)))])
 (.seq (.seq (.reg [mv 9 1, sm 10 (.call 97 [(.t 9)]), sm 11 (.p (.un .not (.t 10))), sm 12 (.v (.build [(.bool false), zi6] [(0, 1, (.t 11)), (1, 1, (.c (.int .i64 1)))])), mv 13 1, sm 14 (.call 97 [(.t 13)]), mv 15 14, ⟨some 16, .p (.mov (.t 1)), (some (15, true))⟩, ⟨some 17, .p (.binw .and (.t 16) (.c (.int .i64 3))), (some (15, true))⟩, ⟨some 18, .p (.fieldA 1 (.t 2)), (some (15, true))⟩, ⟨some 19, .p (.idxA 1 (some 4) (.t 18) (.t 17)), (some (15, true))⟩, ⟨some 20, .h (.load false 1 (.t 19)), (some (15, true))⟩, ⟨some 21, .p (.un .not (.t 20)), (some (15, true))⟩, sm 22 (.p (.pick (.t 15) (.t 21) (.c (.bool false)))), sm 23 (.v (.build [(.bool false), zi6] [(0, 1, (.t 22)), (1, 1, (.c (.int .i64 4)))])), sm 24 (.d (.bslice 2 2 [(.bool false), zi6] [(0, (.t 12)), (2, (.t 23))])), sm 25 (.call 96 [(.t 24)]), mv 7 25])
 (.seq (.reg [mv 26 7, sm 27 (.p (.bin .neq (.t 26) (.c zi6)))])
 (.cond (.t 27) (.seq (.reg [la 28 13 2, mv 29 7, st 13 4 28, sm 5 (.p (.mov (.c zu3))), mv 6 29])
 .ret) .skip)))
 (.seq (.reg [mv 30 1, fa 31 5 2, sm 32 (.p (.idxA 1 (some 4) (.t 31) (.t 30))), ld 33 32, sm 34 (.p (.convw .u32 (.t 33))), mv 8 34])
 (.seq (.reg [mv 35 1, mv 36 1, fa 37 1 2, sm 38 (.p (.idxA 1 (some 4) (.t 37) (.t 35))), ⟨none, .h (.store 1 (.t 38) (.c (.bool false))), none⟩, fa 39 5 2, sm 40 (.p (.idxA 1 (some 4) (.t 39) (.t 36))), ⟨none, .h (.store 1 (.t 40) (.c zi6)), none⟩])
 (.seq (.reg [la 41 13 2, mv 42 8, st 13 4 41, mv 5 42, sm 6 (.p (.mov (.c zi6)))])
 .ret)))))
def rs227 : List AR := [.cell 4 true 13, .tmp 5, .tmp 6]
theorem ok227 : okF Tryz.prog 227 43 ac227 rs227 = true := by kernel_rfl
def ac228 : AC := (.seq (.reg [sm 4 (.h (.box (.t 0))), sm 8 (.h (.alloc [zi6, (.bool false), (.bool false), (.bool false), (.bool false), zi6, zi6, zi6, zi6, zi6, zi6, zi6, zi6])), sm 9 (.p (.mov (.c zi6)))])
 (.seq (.seq (.reg [mv 10 1, sm 11 (.call 97 [(.t 10)]), sm 12 (.p (.un .not (.t 11))), mv 13 12, ⟨some 14, .p (.mov (.t 2)), (some (13, false))⟩, ⟨some 15, .p (.bin .lss (.t 14) (.c zi6)), (some (13, false))⟩, sm 16 (.p (.pick (.t 13) (.c (.bool true)) (.t 15))), mv 17 16, ⟨some 18, .p (.mov (.t 2)), (some (17, false))⟩, ⟨some 19, .p (.bin .gtr (.t 18) (.c (.int .i64 1099511627776))), (some (17, false))⟩, sm 20 (.p (.pick (.t 17) (.c (.bool true)) (.t 19)))])
 (.cond (.t 20) (.seq (.reg [la 21 13 4, st 13 8 21, sm 9 (.p (.mov (.c (.int .i64 1))))])
 .ret) .skip))
 (.seq (.reg [mv 22 1, fa 23 9 4, sm 24 (.p (.idxA 1 (some 4) (.t 23) (.t 22))), ⟨none, .h (.store 1 (.t 24) (.c zi6)), none⟩])
 (.seq (.seq (.reg [mv 25 3, sm 26 (.p (.binw .gtr (.t 25) (.c zu3)))])
 (.cond (.t 26) (.reg [mv 27 1, mv 28 2, mv 29 3, sm 30 (.p (.conv .i64 (.t 29))), sm 31 (.p (.bin .add (.t 28) (.t 30))), sm 32 (.p (.mm false (.t 31) (.c (.int .i64 1099511627776)))), fa 33 9 4, sm 34 (.p (.idxA 1 (some 4) (.t 33) (.t 27))), st 1 34 32]) .skip))
 (.seq (.reg [la 35 13 4, st 13 8 35, sm 9 (.p (.mov (.c zi6)))])
 .ret)))))
def rs228 : List AR := [.cell 8 true 13, .tmp 9]
theorem ok228 : okF Tryz.prog 228 36 ac228 rs228 = true := by kernel_rfl
def ac229 : AC := (.seq (.reg [sm 1 (.h (.box (.t 0))), sm 2 (.h (.alloc [zi6, zu3, zu3, zu3, zu3, zu3, zu3, zu3, zu3, zi6, zi6, zi6, zi6, zi6, zi6, (.bool false), (.bool false), (.bool false), (.bool false), zi6, zi6, zi6, zi6, zi6, zi6, zi6, zi6, (.str .empty), zi6, zu3, zu3, zi6, zi6, .nils, .nils, zu3, zu3, zu3, zu3, zi6, zi6, zi6, zi6])), sm 3 (.h (.alloc [.nils, zu3, .nils, zi6]))])
 (.seq (.reg [fa 10 0 1, fa 11 0 10, fa 12 27 11, la 13 2 12, fa 14 0 1, fa 15 46 14, la 16 3 15, sm 17 (.call 230 [(.t 13), (.t 16)]), mv 9 17, sm 18 (.p (.extract 0 (.t 9))), sm 19 (.p (.extract 1 (.t 9))), sm 20 (.p (.extract 2 (.t 9))), sm 21 (.p (.extract 3 (.t 9))), sm 4 (.h (.alloc [(.str .empty), zi6])), st 2 4 18, mv 5 19, mv 6 20, mv 7 21])
 (.seq (.seq (.reg [mv 22 7, sm 23 (.p (.un .not (.t 22)))])
 (.cond (.t 23) (.seq (.reg [fa 24 0 1, la 25 49 24, sm 26 (.call 129 [(.t 25), (.c (.int .i64 5))]), sm 27 (.p (.extract 0 (.t 26))), sm 28 (.p (.extract 1 (.t 26))), st 43 2 27, st 4 3 28])
 .ret) .skip))
 (.seq (.reg [la 29 2 4, fa 30 0 1, fa 31 0 30, fa 32 27 31, st 2 32 29])
 (.seq (.reg [fa 33 0 1, fa 34 43 33, la 35 1 34, mv 36 5, sm 37 (.v (.build [.nils, zu3, .nils, zi6] [(0, 1, (.t 35)), (1, 1, (.t 36))])), sm 8 (.h (.alloc [.nils, zu3, .nils, zi6])), st 4 8 37])
 (.seq (.seq (.reg [mv 38 6, ⟨some 39, .p (.bin .neq (.t 38) (.c (.str ⟨#[]⟩))), none⟩])
 (.cond (.t 39) (.reg [fa 40 0 1, la 41 49 40, mv 42 6, sm 43 (.d (.bslice 1 1 [(.str .empty)] [(0, (.t 42))])), sm 44 (.call 216 [(.t 41), (.c (.int .i64 1)), (.t 43)]), fa 45 2 8, st 1 45 44]) .skip))
 (.seq (.draw 6 [(2, 4), (3, 5), (4, 5), (2, 5)] [fa 46 0 1, fa 47 0 46, la 48 43 47, la 49 4 8, st 43 2 48, st 4 3 49])
 .ret)))))))
def rs229 : List AR := [.cell 2 true 43, .cell 3 true 4]
theorem ok229 : okF Tryz.prog 229 50 ac229 rs229 = true := by kernel_rfl
def ac230 : AC := (.seq (.reg [sm 2 (.h (.box (.t 0))), sm 3 (.h (.box (.t 1))), sm 4 (.h (.alloc [(.str .empty), zi6])), sm 5 (.p (.mov (.c zu3))), ⟨some 6, .p (.mov (.c (.str ⟨#[]⟩))), none⟩, sm 7 (.p (.mov (.c (.bool false))))])
 (.seq (.seq (.reg [sm 11 (.call 231 []), sm 12 (.p (.mov (.c zi6)))])
 (.block 0 (.loop (.seq (.reg [sm 13 (.p (.bin .lss (.t 12) (.c (.int .i64 3))))])
 (.seq (.cond (.t 13) .skip (.exit 0))
 (.seq (.block 1 (.seq (.reg [sm 14 (.v (.idx true 3 3 (.t 11) (.t 12))), sm 9 (.h (.alloc [zi6, (.bool false), .nilf])), st 3 9 14])
 (.seq (.reg [fa 15 0 9, ld 16 15, fa 17 1 3, ld 18 17, sm 19 (.p (.bin .eql (.t 16) (.t 18))), mv 20 19, ⟨some 21, .p (.fieldA 1 (.t 9)), (some (20, true))⟩, ⟨some 22, .h (.load false 1 (.t 21)), (some (20, true))⟩, ⟨some 23, .p (.fieldA 0 (.t 3)), (some (20, true))⟩, ⟨some 24, .h (.load false 1 (.t 23)), (some (20, true))⟩, ⟨some 25, .p (.beq false (.t 22) (.t 24)), (some (20, true))⟩, sm 26 (.p (.pick (.t 20) (.t 25) (.c (.bool false))))])
 (.cond (.t 26) (.seq (.reg [la 27 2 2, sm 28 (.v (.build [(.str .empty), zi6, zu3, (.str .empty)] [(0, 2, (.t 27))])), sm 29 (.h (.box (.t 28))), mv 10 29])
 (.seq (.reg [fa 30 2 9, ld 31 30, mv 32 10, fa 33 2 3, ld 34 33, sm 35 (.callv (.t 31) [(.t 32), (.t 34)])])
 (.seq (.draw 16 [(3, 12)] [mv 36 10, sm 37 (.p (.nilchk (.t 36))), fa 38 0 37, la 39 2 38, mv 40 10, sm 41 (.p (.nilchk (.t 40))), fa 42 2 41, ld 43 42, mv 44 10, sm 45 (.p (.nilchk (.t 44))), fa 46 3 45, ld 47 46, st 2 4 39, mv 5 43, mv 6 47, sm 7 (.p (.mov (.c (.bool true))))])
 .ret))) .skip))))
 (.reg [sm 48 (.p (.bin .add (.t 12) (.c (.int .i64 1)))), mv 12 48])))))))
 (.seq (.reg [la 49 2 2, st 2 4 49, sm 5 (.p (.mov (.c zu3))), ⟨some 6, .p (.mov (.c (.str ⟨#[]⟩))), none⟩, sm 7 (.p (.mov (.c (.bool false))))])
 .ret)))
def rs230 : List AR := [.cell 4 true 2, .tmp 5, .tmp 6, .tmp 7]
theorem ok230 : okF Tryz.prog 230 50 ac230 rs230 = true := by kernel_rfl
def ac231 : AC := (.seq (.reg [sm 0 (.h (.alloc [zi6, (.bool false), .nilf, zi6, (.bool false), .nilf, zi6, (.bool false), .nilf]))])
 (.seq (.reg [sm 1 (.v (.build [zi6, (.bool false), .nilf] [(0, 1, (.c (.int .i64 32))), (1, 1, (.c (.bool false))), (2, 1, (.c (.func 232 [])))])), sm 2 (.v (.build [zi6, (.bool false), .nilf] [(0, 1, (.c (.int .i64 33))), (1, 1, (.c (.bool true))), (2, 1, (.c (.func 233 [])))])), sm 3 (.v (.build [zi6, (.bool false), .nilf] [(0, 1, (.c (.int .i64 34))), (1, 1, (.c (.bool true))), (2, 1, (.c (.func 235 [])))])), sm 4 (.v (.build [zi6, (.bool false), .nilf, zi6, (.bool false), .nilf, zi6, (.bool false), .nilf] [(0, 3, (.t 1)), (3, 3, (.t 2)), (6, 3, (.t 3))])), st 9 0 4])
 .ret))
def rs231 : List AR := [.cell 0 true 9]
theorem ok231 : okF Tryz.prog 231 5 ac231 rs231 = true := by kernel_rfl
def ac232 : AC := (.reg [mv 4 0, mv 5 1, sm 6 (.p (.convw .u8 (.t 5))), sm 7 (.d (.bslice 1 1 [zu8] [(0, (.t 6))])), sm 8 (.d (.sl2s (.t 7))), sm 9 (.p (.nilchk (.t 4))), fa 10 3 9, st 1 10 8])
def rs232 : List AR := []
theorem ok232 : okF Tryz.prog 232 11 ac232 rs232 = true := by kernel_rfl
def ac233 : AC := (.reg [mv 4 0, sm 5 (.call 234 [(.t 4)])])
def rs233 : List AR := []
theorem ok233 : okF Tryz.prog 233 6 ac233 rs233 = true := by kernel_rfl
def ac234 : AC := (.seq (.reg [mv 2 0, sm 3 (.p (.nilchk (.t 2))), fa 4 2 3, ⟨none, .h (.store 1 (.t 4) (.c (.int .u32 4294967295))), none⟩])
 (.seq (.reg [mv 5 0, sm 6 (.p (.nilchk (.t 5))), fa 7 0 6, fa 8 0 7, ld 9 8, sm 10 (.p .panic)])
 (.block 0 (.loop (.seq (.reg [sm 11 (.p .panic), sm 12 (.p (.extract 0 (.t 11)))])
 (.seq (.cond (.t 12) .skip (.exit 0))
 (.block 1 (.seq (.draw 22 [(6, 17), (13, 17), (17, 21), (6, 21), (13, 21)] [mv 13 0, mv 14 0, mv 15 0, sm 16 (.p (.nilchk (.t 15))), fa 17 0 16, fa 18 0 17, ld 19 18, sm 20 (.v (.sidx (.t 19) (.c zi6))), sm 21 (.p (.conv .u32 (.t 20))), mv 22 0, sm 23 (.p (.nilchk (.t 22))), fa 24 0 23, fa 25 0 24, ld 26 25, sm 27 (.v (.ssub (.t 26) (some (.c (.int .i64 1))) none)), sm 28 (.p (.nilchk (.t 13))), fa 29 2 28, st 1 29 21, sm 30 (.p (.nilchk (.t 14))), fa 31 0 30, fa 32 0 31, st 1 32 27])
 .ret))))))))
def rs234 : List AR := []
theorem ok234 : okF Tryz.prog 234 33 ac234 rs234 = true := by kernel_rfl
def ac235 : AC := (.reg [mv 4 0, mv 5 0, sm 6 (.p (.nilchk (.t 5))), fa 7 0 6, fa 8 0 7, ld 9 8, sm 10 (.p (.len true (.t 9))), sm 11 (.p (.convw .u32 (.t 10))), sm 12 (.p (.nilchk (.t 4))), fa 13 2 12, st 1 13 11])
def rs235 : List AR := []
theorem ok235 : okF Tryz.prog 235 14 ac235 rs235 = true := by kernel_rfl
def ac236 : AC := (.seq (.reg [sm 1 (.h (.box (.t 0))), sm 2 (.h (.alloc [zi6, zu3, zu3, zu3, zu3, zu3, zu3, zu3, zu3, zi6, zi6, zi6, zi6, zi6, zi6, (.bool false), (.bool false), (.bool false), (.bool false), zi6, zi6, zi6, zi6, zi6, zi6, zi6, zi6, (.str .empty), zi6, zu3, zu3, zi6, zi6, .nils, .nils, zu3, zu3, zu3, zu3, zi6, zi6, zi6, zi6])), sm 3 (.h (.alloc [.nils, zu3, .nils, zi6]))])
 (.seq (.reg [fa 7 0 1, fa 8 0 7, fa 9 29 8, la 10 6 9, fa 11 0 1, fa 12 43 11, la 13 1 12, fa 14 0 1, fa 15 46 14, la 16 3 15, sm 17 (.call 237 [(.t 10), (.t 13), (.t 16)]), mv 6 17, sm 18 (.p (.extract 0 (.t 6))), sm 19 (.p (.extract 1 (.t 6))), sm 4 (.h (.alloc [zu3, zu3, zi6, zi6, .nils, .nils])), sm 5 (.h (.alloc [.nils, zu3, .nils, (.bool false), (.bool false)])), st 6 4 18, st 5 5 19])
 (.seq (.seq (.reg [fa 20 4 5, ld 21 20, sm 22 (.p (.un .not (.t 21)))])
 (.cond (.t 22) (.seq (.reg [fa 23 0 1, la 24 49 23, sm 25 (.call 129 [(.t 24), (.c (.int .i64 5))]), sm 26 (.p (.extract 0 (.t 25))), sm 27 (.p (.extract 1 (.t 25))), st 43 2 26, st 4 3 27])
 .ret) .skip))
 (.seq (.reg [la 28 6 4, fa 29 0 1, fa 30 0 29, fa 31 29 30, st 6 31 28])
 (.seq (.draw 13 [(5, 11), (2, 11), (4, 11), (11, 12), (2, 12), (4, 12), (5, 12), (7, 12), (9, 12)] [fa 32 0 1, fa 33 0 32, la 34 43 33, fa 35 3 5, ld 36 35, sm 37 (.call 90 [(.t 34), (.c (.int .i64 2)), (.t 36)]), fa 38 0 5, la 39 1 38, fa 40 1 5, ld 41 40, sm 42 (.v (.build [.nils, zu3, .nils, zi6] [(0, 1, (.t 39)), (1, 1, (.t 41))])), st 43 2 37, st 4 3 42])
 .ret)))))
def rs236 : List AR := [.cell 2 true 43, .cell 3 true 4]
theorem ok236 : okF Tryz.prog 236 43 ac236 rs236 = true := by kernel_rfl
def ac237 : AC := (.seq (.reg [sm 3 (.h (.box (.t 0))), sm 4 (.h (.box (.t 1))), sm 5 (.h (.box (.t 2))), sm 6 (.h (.alloc [zu3, zu3, zi6, zi6, .nils, .nils])), sm 7 (.h (.alloc [.nils, zu3, .nils, (.bool false), (.bool false)]))])
 (.seq (.reg [la 11 1 4, sm 12 (.v (.build [.nils, zu3, .nils, (.bool false), (.bool false)] [(0, 1, (.t 11))])), la 13 6 3, sm 14 (.v (.build [.nils, zu3, .nils, (.bool false), (.bool false), zu3, zu3, zi6, zi6, .nils, .nils] [(0, 5, (.t 12)), (5, 6, (.t 13))])), sm 15 (.h (.box (.t 14))), mv 8 15])
 (.seq (.seq (.reg [fa 16 0 5, ld 17 16])
 (.cond (.t 17) (.seq (.seq (.reg [mv 18 8, sm 19 (.p (.nilchk (.t 18))), fa 20 0 19, fa 21 4 20, ⟨none, .h (.store 1 (.t 21) (.c (.bool true))), none⟩])
 (.seq (.reg [fa 22 1 5, ld 23 22])
 (.block 0 (.seq (.reg [sm 29 (.p (.bin .eql (.t 23) (.c (.int .i64 48)))), mv 28 29])
 (.cond (.t 28) (.reg [mv 30 8, fa 31 0 3, fa 32 0 31, ld 33 32, sm 34 (.p (.nilchk (.t 30))), fa 35 0 34, fa 36 1 35, st 1 36 33]) (.seq (.reg [sm 38 (.p (.bin .eql (.t 23) (.c (.int .i64 49)))), mv 37 38])
 (.cond (.t 37) (.reg [mv 39 8, fa 40 0 3, fa 41 1 40, ld 42 41, sm 43 (.p (.nilchk (.t 39))), fa 44 0 43, fa 45 1 44, st 1 45 42]) (.seq (.reg [sm 47 (.p (.bin .eql (.t 23) (.c (.int .i64 51)))), mv 46 47])
 (.cond (.t 46) (.reg [mv 48 8, mv 49 8, fa 50 3 3, ld 51 50, sm 52 (.p (.convw .u32 (.t 51))), sm 53 (.p (.nilchk (.t 48))), fa 54 0 53, fa 55 1 54, st 1 55 52, sm 56 (.p (.nilchk (.t 49))), fa 57 5 56, fa 58 3 57, ⟨none, .h (.store 1 (.t 58) (.c zi6)), none⟩]) (.reg [mv 24 8, sm 25 (.p (.nilchk (.t 24))), fa 26 0 25, fa 27 4 26, ⟨none, .h (.store 1 (.t 27) (.c (.bool false))), none⟩]))))))))))
 (.seq (.draw 10 [(3, 8), (7, 9), (8, 9), (3, 9)] [mv 59 8, sm 60 (.p (.nilchk (.t 59))), fa 61 5 60, la 62 6 61, mv 63 8, sm 64 (.p (.nilchk (.t 63))), fa 65 0 64, la 66 5 65, st 6 6 62, st 5 7 66])
 .ret)) .skip))
 (.seq (.reg [sm 68 (.m .mk), mv 69 8, sm 70 (.p (.mkme 238 [(.t 69)])), ⟨none, .m (.set (.c (.i .i64)) (.t 68) (.c (.int .i64 48)) (.t 70)), none⟩, mv 71 8, sm 72 (.p (.mkme 239 [(.t 71)])), ⟨none, .m (.set (.c (.i .i64)) (.t 68) (.c (.int .i64 49)) (.t 72)), none⟩, mv 73 8, sm 74 (.p (.mkme 240 [(.t 73)])), ⟨none, .m (.set (.c (.i .i64)) (.t 68) (.c (.int .i64 50)) (.t 74)), none⟩, mv 75 68, fa 76 1 5, ld 77 76, sm 78 (.m (.get true (.c (.i .i64)) .nilf (.t 75) (.t 77))), mv 67 78, sm 79 (.p (.extract 0 (.t 67))), sm 80 (.p (.extract 1 (.t 67))), mv 9 79, mv 10 80])
 (.seq (.seq (.reg [mv 81 10])
 (.cond (.t 81) (.seq (.reg [mv 82 8, sm 83 (.p (.nilchk (.t 82))), fa 84 0 83, fa 85 4 84, ⟨none, .h (.store 1 (.t 85) (.c (.bool true))), none⟩])
 (.reg [mv 86 9, fa 87 2 5, ld 88 87, sm 89 (.callv (.t 86) [(.t 88)])])) .skip))
 (.seq (.draw 10 [(3, 8), (7, 9), (8, 9), (3, 9)] [mv 90 8, sm 91 (.p (.nilchk (.t 90))), fa 92 5 91, la 93 6 92, mv 94 8, sm 95 (.p (.nilchk (.t 94))), fa 96 0 95, la 97 5 96, st 6 6 93, st 5 7 97])
 .ret))))))
def rs237 : List AR := [.cell 6 true 6, .cell 7 true 5]
theorem ok237 : okF Tryz.prog 237 98 ac237 rs237 = true := by kernel_rfl
def ac238 : AC := (.reg [mv 4 0, mv 5 0, mv 6 1, sm 7 (.p (.nilchk (.t 4))), fa 8 5 7, fa 9 0 8, fa 10 0 9, st 1 10 6, sm 11 (.p (.nilchk (.t 5))), fa 12 5 11, fa 13 2 12, ⟨none, .h (.store 1 (.t 13) (.c zi6)), none⟩])
def rs238 : List AR := []
theorem ok238 : okF Tryz.prog 238 14 ac238 rs238 = true := by kernel_rfl
def ac239 : AC := (.reg [mv 4 0, mv 5 0, mv 6 1, sm 7 (.p (.nilchk (.t 4))), fa 8 5 7, fa 9 0 8, fa 10 1 9, st 1 10 6, sm 11 (.p (.nilchk (.t 5))), fa 12 5 11, fa 13 2 12, ⟨none, .h (.store 1 (.t 13) (.c zi6)), none⟩])
def rs239 : List AR := []
theorem ok239 : okF Tryz.prog 239 14 ac239 rs239 = true := by kernel_rfl
def ac240 : AC := (.scope (.seq (.seq (.draw 12 [] [mv 11 0, sm 12 (.p (.nilchk (.t 11))), fa 13 0 12, fa 14 0 13, la 15 1 14, mv 16 0, sm 17 (.p (.nilchk (.t 16))), fa 18 5 17, fa 19 0 18, la 20 2 19, sm 21 (.call 114 [(.t 15), (.t 20)]), mv 4 21])
 (.seq (.reg [mv 22 4, sm 23 (.p (.bin .neq (.t 22) (.c zi6)))])
 (.cond (.t 23) (.seq (.reg [mv 24 0, mv 25 4, sm 26 (.p (.nilchk (.t 24))), fa 27 5 26, fa 28 3 27, st 1 28 25])
 .ret) .skip)))
 (.seq .skip
 (.seq (.reg [mv 29 0, sm 30 (.p (.nilchk (.t 29))), fa 31 5 30, fa 32 0 31, fa 33 1 32, ld 34 33, sm 35 (.p (.mov (.c zu3)))])
 (.block 0 (.loop (.seq (.reg [sm 36 (.p (.binw .lss (.t 35) (.t 34)))])
 (.seq (.cond (.t 36) .skip (.exit 0))
 (.seq (.block 1 (.seq (.draw 21 [] [mv 38 0, sm 39 (.p (.nilchk (.t 38))), fa 40 0 39, fa 41 0 40, la 42 1 41, mv 43 0, sm 44 (.p (.nilchk (.t 43))), fa 45 5 44, fa 46 0 45, la 47 2 46, mv 48 0, sm 49 (.p (.nilchk (.t 48))), fa 50 5 49, fa 51 2 50, ld 52 51, sm 53 (.call 116 [(.t 42), (.t 47), (.t 52)]), mv 37 53, sm 54 (.p (.extract 0 (.t 37))), sm 55 (.p (.extract 1 (.t 37))), mv 5 54, mv 6 55])
 (.seq (.seq (.reg [mv 56 6, sm 57 (.p (.un .not (.t 56))), mv 58 57, ⟨some 59, .p (.mov (.t 0)), (some (58, false))⟩, ⟨some 60, .p (.nilchk (.t 59)), (some (58, false))⟩, ⟨some 61, .p (.fieldA 5 (.t 60)), (some (58, false))⟩, ⟨some 62, .p (.fieldA 5 (.t 61)), (some (58, false))⟩, ⟨some 63, .h (.load false 1 (.t 62)), (some (58, false))⟩, ⟨some 64, .p (.len false (.t 63)), (some (58, false))⟩, ⟨some 65, .p (.bin .geq (.t 64) (.c (.int .i64 8))), (some (58, false))⟩, sm 66 (.p (.pick (.t 58) (.c (.bool true)) (.t 65)))])
 (.cond (.t 66) (.exit 0) .skip))
 (.seq (.reg [mv 67 0, mv 68 5, sm 69 (.p (.bin .add (.t 68) (.c (.int .i64 1)))), mv 70 0, sm 71 (.p (.nilchk (.t 70))), fa 72 5 71, fa 73 0 72, fa 74 1 73, ld 75 74, sm 76 (.p (.conv .i64 (.t 75))), sm 77 (.p (.bin .rem (.t 69) (.t 76))), sm 78 (.p (.nilchk (.t 67))), fa 79 5 78, fa 80 2 79, st 1 80 77])
 (.seq (.draw 20 [(16, 17), (11, 17), (4, 17), (9, 17)] [mv 82 0, sm 83 (.p (.nilchk (.t 82))), fa 84 0 83, fa 85 0 84, la 86 1 85, mv 87 0, sm 88 (.p (.nilchk (.t 87))), fa 89 5 88, fa 90 0 89, la 91 2 90, mv 92 5, sm 93 (.call 117 [(.t 86), (.t 91), (.t 92)]), mv 81 93, sm 94 (.p (.extract 0 (.t 81))), sm 95 (.p (.extract 1 (.t 81))), sm 96 (.p (.extract 2 (.t 81))), sm 7 (.h (.alloc [.nils])), st 1 7 94, mv 8 95, mv 9 96])
 (.seq (.reg [mv 97 0, la 98 1 7, sm 99 (.p (.nilchk (.t 97))), fa 100 0 99, fa 101 0 100, st 1 101 98])
 (.seq (.seq (.reg [mv 102 9, sm 103 (.p (.bin .neq (.t 102) (.c zi6)))])
 (.cond (.t 103) (.seq (.reg [mv 104 0, mv 105 0, mv 106 9, sm 107 (.p (.nilchk (.t 104))), fa 108 5 107, fa 109 3 108, st 1 109 106, sm 110 (.p (.nilchk (.t 105))), fa 111 0 110, fa 112 3 111, ⟨none, .h (.store 1 (.t 112) (.c (.bool true))), none⟩])
 (.exit 1)) .skip))
 (.seq (.reg [mv 114 0, mv 115 8, sm 116 (.call 241 [(.t 114), (.t 115)]), mv 113 116, sm 117 (.p (.extract 0 (.t 113))), sm 118 (.p (.extract 1 (.t 113))), sm 10 (.h (.alloc [zu3, zu3, zi6, (.bool false), .nils])), st 5 10 117, mv 9 118])
 (.seq (.seq (.reg [mv 119 9, sm 120 (.p (.bin .neq (.t 119) (.c zi6)))])
 (.cond (.t 120) (.seq (.reg [mv 121 0, mv 122 5, mv 123 9, sm 124 (.call 242 [(.t 121), (.t 122), (.t 123)])])
 (.exit 1)) .skip))
 (.draw 26 [(19, 20), (20, 21), (19, 21), (5, 21), (16, 21), (10, 21), (21, 25), (5, 25), (10, 25), (16, 25), (19, 25), (20, 25)] [mv 125 0, mv 126 0, sm 127 (.p (.nilchk (.t 126))), fa 128 5 127, fa 129 5 128, ld 130 129, mv 131 0, sm 132 (.p (.nilchk (.t 131))), fa 133 5 132, fa 134 5 133, ld 135 134, sm 136 (.p (.len false (.t 135))), mv 137 0, sm 138 (.p (.nilchk (.t 137))), fa 139 5 138, fa 140 5 139, ld 141 140, sm 142 (.p (.len false (.t 141))), sm 143 (.v (.sub 5 (.t 130) none (some (.t 136)) (some (.t 142)))), la 144 5 10, sm 145 (.d (.bslice 5 1 [zu3, zu3, zi6, (.bool false), .nils] [(0, (.t 144))])), sm 146 (.l (.append 5 48 (.t 143) (.t 145))), sm 147 (.p (.nilchk (.t 125))), fa 148 5 147, fa 149 5 148, st 1 149 146]))))))))))
 (.reg [sm 150 (.p (.binw .add (.t 35) (.c (.int .u32 1)))), mv 35 150]))))))))))
def rs240 : List AR := []
theorem ok240 : okF Tryz.prog 240 151 ac240 rs240 = true := by kernel_rfl
def ac241 : AC := (.seq (.reg [sm 4 (.h (.alloc [zu3, zu3, zi6, (.bool false), .nils])), sm 5 (.p (.mov (.c zi6)))])
 (.seq (.reg [mv 10 1, sm 11 (.p (.idxA 4 none (.t 10) (.c zi6))), la 12 4 11, sm 6 (.h (.alloc [zi6, zi6, zi6, (.bool false)])), st 4 6 12])
 (.seq (.seq (.reg [fa 13 2 6, ld 14 13, sm 15 (.p (.bin .neq (.t 14) (.c (.int .i64 8)))), mv 16 15, ⟨some 17, .p (.fieldA 3 (.t 6)), (some (16, false))⟩, ⟨some 18, .h (.load false 1 (.t 17)), (some (16, false))⟩, sm 19 (.p (.pick (.t 16) (.c (.bool true)) (.t 18)))])
 (.cond (.t 19) (.seq (.reg [sm 20 (.v (.build [zu3, zu3, zi6, (.bool false), .nils] [])), st 5 4 20, sm 5 (.p (.mov (.c (.int .i64 161))))])
 .ret) .skip))
 (.seq (.draw 19 [] [mv 21 0, sm 22 (.p (.nilchk (.t 21))), fa 23 0 22, fa 24 0 23, la 25 1 24, fa 26 1 6, ld 27 26, sm 28 (.call 243 [(.t 25), (.t 27)]), mv 29 0, sm 30 (.p (.nilchk (.t 29))), fa 31 0 30, fa 32 0 31, la 33 1 32, fa 34 1 6, ld 35 34, sm 36 (.p (.bin .add (.t 35) (.c (.int .i64 4)))), sm 37 (.call 243 [(.t 33), (.t 36)]), mv 7 28, mv 8 37])
 (.seq (.seq (.reg [mv 38 7, mv 39 0, sm 40 (.p (.nilchk (.t 39))), fa 41 5 40, fa 42 4 41, ld 43 42, sm 44 (.p (.len false (.t 43))), sm 45 (.p (.convw .u32 (.t 44))), sm 46 (.p (.binw .geq (.t 38) (.t 45))), mv 47 46, ⟨some 48, .p (.mov (.t 8)), (some (47, false))⟩, ⟨some 49, .p (.binw .neq (.t 48) (.c (.int .u32 1))), (some (47, false))⟩, ⟨some 50, .p (.mov (.t 49)), (some (47, false))⟩, ⟨some 51, .p (.mov (.t 8)), (some (50, true))⟩, ⟨some 52, .p (.binw .neq (.t 51) (.c (.int .u32 2))), (some (50, true))⟩, ⟨some 53, .p (.pick (.t 50) (.t 52) (.c (.bool false))), (some (47, false))⟩, sm 54 (.p (.pick (.t 47) (.c (.bool true)) (.t 53)))])
 (.cond (.t 54) (.seq (.reg [sm 55 (.v (.build [zu3, zu3, zi6, (.bool false), .nils] [])), st 5 4 55, sm 5 (.p (.mov (.c (.int .i64 161))))])
 .ret) .skip))
 (.seq (.reg [mv 56 0, sm 57 (.p (.nilchk (.t 56))), fa 58 5 57, fa 59 0 58, la 60 2 59, mv 61 7, sm 62 (.p (.conv .i64 (.t 61))), mv 63 8, sm 64 (.p (.binw .eql (.t 63) (.c (.int .u32 2)))), mv 65 1, sm 66 (.v (.build [zu3, zu3, zi6, (.bool false), .nils] [(0, 2, (.t 60)), (2, 1, (.t 62)), (3, 1, (.t 64)), (4, 1, (.t 65))])), sm 9 (.h (.alloc [zu3, zu3, zi6, (.bool false), .nils])), st 5 9 66])
 (.seq (.draw 8 [(0, 6), (5, 6), (4, 6)] [la 67 5 9, mv 68 1, sm 69 (.v (.sub 4 (.t 68) (some (.c (.int .i64 1))) none none)), fa 70 3 9, ld 71 70, sm 72 (.call 244 [(.t 69), (.t 71)]), st 5 4 67, mv 5 72])
 .ret)))))))
def rs241 : List AR := [.cell 4 true 5, .tmp 5]
theorem ok241 : okF Tryz.prog 241 73 ac241 rs241 = true := by kernel_rfl
def ac242 : AC := (.seq (.draw 18 [(13, 17), (5, 17), (10, 17)] [mv 6 0, mv 7 0, sm 8 (.p (.nilchk (.t 7))), fa 9 0 8, fa 10 0 9, la 11 1 10, mv 12 0, sm 13 (.p (.nilchk (.t 12))), fa 14 5 13, fa 15 0 14, la 16 2 15, mv 17 1, mv 18 2, sm 19 (.call 137 [(.t 11), (.t 16), (.t 17), (.t 18)]), sm 20 (.p (.nilchk (.t 6))), fa 21 0 20, fa 22 0 21, st 1 22 19])
 (.reg [mv 23 0, mv 24 0, mv 25 2, sm 26 (.p (.nilchk (.t 23))), fa 27 5 26, fa 28 3 27, st 1 28 25, sm 29 (.p (.nilchk (.t 24))), fa 30 0 29, fa 31 3 30, ⟨none, .h (.store 1 (.t 31) (.c (.bool true))), none⟩]))
def rs242 : List AR := []
theorem ok242 : okF Tryz.prog 242 32 ac242 rs242 = true := by kernel_rfl
def ac243 : AC := (.seq (.reg [sm 2 (.h (.box (.t 0))), sm 4 (.p (.mov (.c zu3)))])
 (.seq (.reg [la 8 1 2, mv 9 1, sm 10 (.call 121 [(.t 8), (.t 9), (.c (.int .i64 4))]), mv 7 10, sm 11 (.p (.extract 0 (.t 7))), sm 12 (.p (.extract 1 (.t 7))), mv 5 11, mv 6 12])
 (.seq (.draw 19 [] [mv 13 5, sm 14 (.v (.sidx (.t 13) (.c zi6))), sm 15 (.p (.conv .u32 (.t 14))), mv 16 5, sm 17 (.v (.sidx (.t 16) (.c (.int .i64 1)))), sm 18 (.p (.conv .u32 (.t 17))), sm 19 (.p (.binw .shl (.t 18) (.c (.int .u64 8)))), sm 20 (.p (.binw .or (.t 15) (.t 19))), mv 21 5, sm 22 (.v (.sidx (.t 21) (.c (.int .i64 2)))), sm 23 (.p (.conv .u32 (.t 22))), sm 24 (.p (.binw .shl (.t 23) (.c (.int .u64 16)))), sm 25 (.p (.binw .or (.t 20) (.t 24))), mv 26 5, sm 27 (.v (.sidx (.t 26) (.c (.int .i64 3)))), sm 28 (.p (.conv .u32 (.t 27))), sm 29 (.p (.binw .shl (.t 28) (.c (.int .u64 24)))), sm 30 (.p (.binw .or (.t 25) (.t 29))), mv 4 30])
 .ret)))
def rs243 : List AR := [.tmp 4]
theorem ok243 : okF Tryz.prog 243 31 ac243 rs243 = true := by kernel_rfl
def ac244 : AC := (.seq (.reg [sm 4 (.p (.mov (.c zi6)))])
 (.seq (.reg [sm 5 (.p (.mov (.c zi6)))])
 (.seq (.seq (.reg [mv 10 0, sm 11 (.p (.len false (.t 10))), sm 12 (.p (.mov (.c zi6)))])
 (.block 0 (.loop (.seq (.reg [sm 13 (.p (.bin .lss (.t 12) (.t 11)))])
 (.seq (.cond (.t 13) .skip (.exit 0))
 (.seq (.block 1 (.seq (.reg [sm 14 (.p (.idxA 4 none (.t 10) (.t 12))), la 15 4 14, sm 7 (.h (.alloc [zi6, zi6, zi6, (.bool false)])), st 4 7 15])
 (.reg [mv 16 5, fa 17 2 7, ld 18 17, sm 19 (.p (.bin .add (.t 16) (.t 18))), mv 5 19])))
 (.reg [sm 20 (.p (.bin .add (.t 12) (.c (.int .i64 1)))), mv 12 20])))))))
 (.seq (.seq (.reg [mv 21 5, sm 22 (.p (.bin .lss (.t 21) (.c (.int .i64 1)))), mv 23 22, ⟨some 24, .p (.mov (.t 5)), (some (23, false))⟩, ⟨some 25, .p (.bin .gtr (.t 24) (.c (.int .i64 128))), (some (23, false))⟩, sm 26 (.p (.pick (.t 23) (.c (.bool true)) (.t 25)))])
 (.cond (.t 26) (.seq (.reg [sm 4 (.p (.mov (.c (.int .i64 161))))])
 .ret) .skip))
 (.seq (.seq (.reg [mv 27 0, sm 28 (.p (.len false (.t 27))), sm 29 (.p (.mov (.c zi6)))])
 (.block 2 (.loop (.seq (.reg [sm 30 (.p (.bin .lss (.t 29) (.t 28)))])
 (.seq (.cond (.t 30) .skip (.exit 2))
 (.seq (.block 3 (.seq (.reg [sm 31 (.p (.idxA 4 none (.t 27) (.t 29))), la 32 4 31, sm 9 (.h (.alloc [zi6, zi6, zi6, (.bool false)])), st 4 9 32])
 (.seq (.reg [fa 33 3 9, ld 34 33, mv 35 1, sm 36 (.p (.beq false (.t 34) (.t 35)))])
 (.cond (.t 36) (.seq (.reg [sm 4 (.p (.mov (.c (.int .i64 164))))])
 .ret) .skip))))
 (.reg [sm 37 (.p (.bin .add (.t 29) (.c (.int .i64 1)))), mv 29 37])))))))
 (.seq (.reg [sm 4 (.p (.mov (.c zi6)))])
 .ret))))))
def rs244 : List AR := [.tmp 4]
theorem ok244 : okF Tryz.prog 244 38 ac244 rs244 = true := by kernel_rfl
def ac245 : AC := (.seq (.reg [sm 1 (.h (.box (.t 0))), sm 2 (.h (.alloc [zi6, zu3, zu3, zu3, zu3, zu3, zu3, zu3, zu3, zi6, zi6, zi6, zi6, zi6, zi6, (.bool false), (.bool false), (.bool false), (.bool false), zi6, zi6, zi6, zi6, zi6, zi6, zi6, zi6, (.str .empty), zi6, zu3, zu3, zi6, zi6, .nils, .nils, zu3, zu3, zu3, zu3, zi6, zi6, zi6, zi6])), sm 3 (.h (.alloc [.nils, zu3, .nils, zi6]))])
 (.seq (.reg [fa 7 0 1, fa 8 0 7, fa 9 35 8, la 10 8 9, fa 11 0 1, fa 12 43 11, la 13 1 12, fa 14 0 1, fa 15 46 14, la 16 3 15, sm 17 (.call 246 [(.t 10), (.t 13), (.t 16)]), mv 6 17, sm 18 (.p (.extract 0 (.t 6))), sm 19 (.p (.extract 1 (.t 6))), sm 4 (.h (.alloc [zu3, zu3, zu3, zu3, zi6, zi6, zi6, zi6])), sm 5 (.h (.alloc [.nils, zu3, .nils, (.bool false), (.bool false)])), st 8 4 18, st 5 5 19])
 (.seq (.seq (.reg [fa 20 4 5, ld 21 20, sm 22 (.p (.un .not (.t 21)))])
 (.cond (.t 22) (.seq (.reg [fa 23 0 1, la 24 49 23, sm 25 (.call 129 [(.t 24), (.c (.int .i64 5))]), sm 26 (.p (.extract 0 (.t 25))), sm 27 (.p (.extract 1 (.t 25))), st 43 2 26, st 4 3 27])
 .ret) .skip))
 (.seq (.reg [la 28 8 4, fa 29 0 1, fa 30 0 29, fa 31 35 30, st 8 31 28])
 (.seq (.draw 18 [(5, 16), (14, 16), (2, 16), (4, 16), (11, 16), (13, 16), (16, 17), (2, 17), (4, 17), (5, 17), (7, 17), (9, 17), (11, 17), (13, 17), (14, 17)] [fa 32 0 1, fa 33 0 32, la 34 43 33, fa 35 3 5, ld 36 35, sm 37 (.call 90 [(.t 34), (.c (.int .i64 3)), (.t 36)]), fa 38 0 5, la 39 1 38, fa 40 1 5, ld 41 40, fa 42 0 1, la 43 49 42, fa 44 2 5, ld 45 44, sm 46 (.call 216 [(.t 43), (.c (.int .i64 2)), (.t 45)]), sm 47 (.v (.build [.nils, zu3, .nils, zi6] [(0, 1, (.t 39)), (1, 1, (.t 41)), (2, 1, (.t 46))])), st 43 2 37, st 4 3 47])
 .ret)))))
def rs245 : List AR := [.cell 2 true 43, .cell 3 true 4]
theorem ok245 : okF Tryz.prog 245 48 ac245 rs245 = true := by kernel_rfl
def ac246 : AC := (.seq (.reg [sm 3 (.h (.box (.t 0))), sm 4 (.h (.box (.t 1))), sm 5 (.h (.box (.t 2))), sm 6 (.h (.alloc [zu3, zu3, zu3, zu3, zi6, zi6, zi6, zi6])), sm 7 (.h (.alloc [.nils, zu3, .nils, (.bool false), (.bool false)]))])
 (.seq (.reg [la 9 1 4, sm 10 (.v (.build [.nils, zu3, .nils, (.bool false), (.bool false)] [(0, 1, (.t 9)), (4, 1, (.c (.bool true)))])), la 11 8 3, sm 12 (.v (.build [.nils, zu3, .nils, (.bool false), (.bool false), zu3, zu3, zu3, zu3, zi6, zi6, zi6, zi6] [(0, 5, (.t 10)), (5, 8, (.t 11))])), sm 13 (.h (.box (.t 12))), mv 8 13])
 (.seq (.seq (.reg [fa 14 0 5, ld 15 14])
 (.cond (.t 15) (.reg [mv 16 8, fa 17 1 5, ld 18 17, sm 19 (.call 247 [(.t 16), (.t 18)])]) (.reg [mv 20 8, fa 21 1 5, ld 22 21, fa 23 2 5, ld 24 23, sm 25 (.call 248 [(.t 20), (.t 22), (.t 24)])])))
 (.seq (.draw 10 [(3, 8), (7, 9), (8, 9), (3, 9)] [mv 26 8, sm 27 (.p (.nilchk (.t 26))), fa 28 5 27, la 29 8 28, mv 30 8, sm 31 (.p (.nilchk (.t 30))), fa 32 0 31, la 33 5 32, st 8 6 29, st 5 7 33])
 .ret))))
def rs246 : List AR := [.cell 6 true 8, .cell 7 true 5]
theorem ok246 : okF Tryz.prog 246 34 ac246 rs246 = true := by kernel_rfl
def ac247 : AC := (.seq (.reg [mv 4 1])
 (.block 0 (.seq (.reg [sm 10 (.p (.bin .eql (.t 4) (.c (.int .i64 64)))), mv 9 10])
 (.cond (.t 9) (.reg [mv 11 0, mv 12 0, sm 13 (.p (.nilchk (.t 12))), fa 14 5 13, fa 15 0 14, fa 16 0 15, ld 17 16, sm 18 (.p (.nilchk (.t 11))), fa 19 0 18, fa 20 1 19, st 1 20 17]) (.seq (.reg [sm 22 (.p (.bin .eql (.t 4) (.c (.int .i64 65)))), mv 21 22])
 (.cond (.t 21) (.reg [mv 23 0, mv 24 0, sm 25 (.p (.nilchk (.t 24))), fa 26 5 25, fa 27 0 26, fa 28 1 27, ld 29 28, sm 30 (.p (.nilchk (.t 23))), fa 31 0 30, fa 32 1 31, st 1 32 29]) (.seq (.reg [sm 34 (.p (.bin .eql (.t 4) (.c (.int .i64 66)))), mv 33 34])
 (.cond (.t 33) (.reg [mv 35 0, mv 36 0, sm 37 (.p (.nilchk (.t 36))), fa 38 5 37, fa 39 2 38, fa 40 0 39, ld 41 40, sm 42 (.p (.nilchk (.t 35))), fa 43 0 42, fa 44 1 43, st 1 44 41]) (.seq (.reg [sm 46 (.p (.bin .eql (.t 4) (.c (.int .i64 67)))), mv 45 46])
 (.cond (.t 45) (.reg [mv 47 0, mv 48 0, sm 49 (.p (.nilchk (.t 48))), fa 50 5 49, fa 51 2 50, fa 52 1 51, ld 53 52, sm 54 (.p (.nilchk (.t 47))), fa 55 0 54, fa 56 1 55, st 1 56 53]) (.seq (.reg [sm 58 (.p (.bin .eql (.t 4) (.c (.int .i64 69)))), mv 57 58])
 (.cond (.t 57) (.reg [mv 59 0, mv 60 0, mv 61 0, sm 62 (.p (.nilchk (.t 61))), fa 63 5 62, fa 64 6 63, ld 65 64, sm 66 (.p (.convw .u32 (.t 65))), sm 67 (.p (.nilchk (.t 59))), fa 68 0 67, fa 69 1 68, st 1 69 66, sm 70 (.p (.nilchk (.t 60))), fa 71 5 70, fa 72 6 71, ⟨none, .h (.store 1 (.t 72) (.c zi6)), none⟩]) (.seq (.reg [sm 74 (.p (.bin .eql (.t 4) (.c (.int .i64 70)))), mv 73 74])
 (.cond (.t 73) (.reg [mv 75 0, mv 76 0, sm 77 (.p (.nilchk (.t 76))), fa 78 5 77, fa 79 7 78, ld 80 79, sm 81 (.p (.convw .u32 (.t 80))), sm 82 (.p (.nilchk (.t 75))), fa 83 0 82, fa 84 1 83, st 1 84 81]) (.reg [mv 5 0, sm 6 (.p (.nilchk (.t 5))), fa 7 0 6, fa 8 4 7, ⟨none, .h (.store 1 (.t 8) (.c (.bool false))), none⟩])))))))))))))))
def rs247 : List AR := []
theorem ok247 : okF Tryz.prog 247 85 ac247 rs247 = true := by kernel_rfl
def ac248 : AC := (.seq (.reg [mv 6 1])
 (.block 0 (.seq (.reg [sm 12 (.p (.bin .eql (.t 6) (.c (.int .i64 64)))), mv 11 12])
 (.cond (.t 11) (.reg [mv 13 0, mv 14 0, mv 15 2, sm 16 (.p (.nilchk (.t 13))), fa 17 5 16, fa 18 0 17, fa 19 0 18, st 1 19 15, sm 20 (.p (.nilchk (.t 14))), fa 21 5 20, fa 22 4 21, ⟨none, .h (.store 1 (.t 22) (.c zi6)), none⟩]) (.seq (.reg [sm 24 (.p (.bin .eql (.t 6) (.c (.int .i64 65)))), mv 23 24])
 (.cond (.t 23) (.reg [mv 25 0, mv 26 0, mv 27 2, sm 28 (.p (.nilchk (.t 25))), fa 29 5 28, fa 30 0 29, fa 31 1 30, st 1 31 27, sm 32 (.p (.nilchk (.t 26))), fa 33 5 32, fa 34 4 33, ⟨none, .h (.store 1 (.t 34) (.c zi6)), none⟩]) (.seq (.reg [sm 36 (.p (.bin .eql (.t 6) (.c (.int .i64 66)))), mv 35 36])
 (.cond (.t 35) (.reg [mv 37 0, mv 38 0, mv 39 2, sm 40 (.p (.nilchk (.t 37))), fa 41 5 40, fa 42 2 41, fa 43 0 42, st 1 43 39, sm 44 (.p (.nilchk (.t 38))), fa 45 5 44, fa 46 5 45, ⟨none, .h (.store 1 (.t 46) (.c zi6)), none⟩]) (.seq (.reg [sm 48 (.p (.bin .eql (.t 6) (.c (.int .i64 67)))), mv 47 48])
 (.cond (.t 47) (.reg [mv 49 0, mv 50 0, mv 51 2, sm 52 (.p (.nilchk (.t 49))), fa 53 5 52, fa 54 2 53, fa 55 1 54, st 1 55 51, sm 56 (.p (.nilchk (.t 50))), fa 57 5 56, fa 58 5 57, ⟨none, .h (.store 1 (.t 58) (.c zi6)), none⟩]) (.seq (.reg [sm 60 (.p (.bin .eql (.t 6) (.c (.int .i64 68)))), mv 59 60])
 (.cond (.t 59) (.reg [mv 61 0, sm 62 (.call 214 [(.t 61)])]) (.reg [mv 7 0, sm 8 (.p (.nilchk (.t 7))), fa 9 0 8, fa 10 4 9, ⟨none, .h (.store 1 (.t 10) (.c (.bool false))), none⟩])))))))))))))
def rs248 : List AR := []
theorem ok248 : okF Tryz.prog 248 63 ac248 rs248 = true := by kernel_rfl
end Go.Proofs

namespace Go.Eng
open Go
variable [Globs]

inductive BT (α : Type) where
 | nil
 | node (v : Option α) (l r : BT α)
namespace BT
variable {α : Type}
def get : BT α → Nat → Option α
 | nil, _ => none
 | node v l r, n => match n with
  | 0 => v
  | n + 1 => bif Nat.beq (Nat.mod n 2) 0 then l.get (Nat.div n 2) else r.get (Nat.div n 2)
def set (v : α) : Nat → BT α → Nat → Option (BT α)
 | 0, _, _ => none
 | d + 1, nil, n => match n with
  | 0 => some (node (some v) nil nil)
  | n + 1 => bif Nat.beq (Nat.mod n 2) 0 then (match set v d nil (Nat.div n 2) with
   | some l => some (node none l nil)
   | none => none) else (match set v d nil (Nat.div n 2) with
   | some r => some (node none nil r)
   | none => none)
 | d + 1, node u l r, n => match n with
  | 0 => some (node (some v) l r)
  | n + 1 => bif Nat.beq (Nat.mod n 2) 0 then (match set v d l (Nat.div n 2) with
   | some l => some (node u l r)
   | none => none) else (match set v d r (Nat.div n 2) with
   | some r => some (node u l r)
   | none => none)
theorem par {n m : Nat} (h : Nat.mod n 2 = Nat.mod m 2) (k : Nat.div n 2 = Nat.div m 2) : n = m := by
 have h : n % 2 = m % 2 := h
 have k : n / 2 = m / 2 := k
 omega
theorem get_set (v : α) : ∀ {d : Nat} {t t' : BT α} {n : Nat}, set v d t n = some t' → ∀ m, t'.get m = if n = m then some v else t.get m
 | 0, _, _, _, h, _ => by simp [set] at h
 | d + 1, nil, t', n, h, m => by
  cases n with
  | zero =>
   simp only [set, Option.some.injEq] at h; subst h
   cases m with
   | zero => simp [get]
   | succ m => simp [get]
  | succ n =>
   simp only [set] at h
   cases hb : Nat.beq (Nat.mod n 2) 0 <;> simp only [hb, cond_true, cond_false] at h
   all_goals
    split at h
    · rename_i s hs
      simp only [Option.some.injEq] at h; subst h
      have ih := get_set v hs
      cases m with
      | zero => simp [get]
      | succ m =>
       simp only [get, Nat.add_right_cancel_iff]
       have h2 : Nat.mod n 2 < 2 := Nat.mod_lt _ (by decide)
       have h3 : Nat.mod m 2 < 2 := Nat.mod_lt _ (by decide)
       cases hc : Nat.beq (Nat.mod m 2) 0 <;> simp only [cond_true, cond_false]
       all_goals first
        | (rw [ih]
           by_cases e : Nat.div n 2 = Nat.div m 2
           · rw [if_pos e, if_pos]
             refine par ?_ e
             cases hn : Nat.mod n 2 with
             | zero => cases hm : Nat.mod m 2 with
              | zero => rfl
              | succ y => rw [hn] at hb; rw [hm] at hc; simp at hb hc
             | succ x => cases hm : Nat.mod m 2 with
              | zero => rw [hn] at hb; rw [hm] at hc; simp at hb hc
              | succ y => omega
           · rw [if_neg e, if_neg (fun h => e (by rw [h]))]; try rfl)
        | (rw [if_neg]; rintro rfl; rw [hb] at hc; cases hc)
        | (rw [if_neg]; · (try rfl)
           rintro rfl; rw [hb] at hc; cases hc)
    · cases h
 | d + 1, node u l r, t', n, h, m => by
  cases n with
  | zero =>
   simp only [set, Option.some.injEq] at h; subst h
   cases m with
   | zero => simp [get]
   | succ m => simp [get]
  | succ n =>
   simp only [set] at h
   cases hb : Nat.beq (Nat.mod n 2) 0 <;> simp only [hb, cond_true, cond_false] at h
   all_goals
    split at h
    · rename_i s hs
      simp only [Option.some.injEq] at h; subst h
      have ih := get_set v hs
      cases m with
      | zero => simp [get]
      | succ m =>
       simp only [get, Nat.add_right_cancel_iff]
       have h2 : Nat.mod n 2 < 2 := Nat.mod_lt _ (by decide)
       have h3 : Nat.mod m 2 < 2 := Nat.mod_lt _ (by decide)
       cases hc : Nat.beq (Nat.mod m 2) 0 <;> simp only [cond_true, cond_false]
       all_goals first
        | (rw [ih]
           by_cases e : Nat.div n 2 = Nat.div m 2
           · rw [if_pos e, if_pos]
             refine par ?_ e
             cases hn : Nat.mod n 2 with
             | zero => cases hm : Nat.mod m 2 with
              | zero => rfl
              | succ y => rw [hn] at hb; rw [hm] at hc; simp at hb hc
             | succ x => cases hm : Nat.mod m 2 with
              | zero => rw [hn] at hb; rw [hm] at hc; simp at hb hc
              | succ y => omega
           · rw [if_neg e, if_neg (fun h => e (by rw [h]))]; try rfl)
        | (rw [if_neg]; rintro rfl; rw [hb] at hc; cases hc)
        | (rw [if_neg]; · (try rfl)
           rintro rfl; rw [hb] at hc; cases hc)
    · cases h
end BT

section
variable {β : Type}
def forceN (m : Nat) (K : Nat → Option β) : Option β := match m with
 | 0 => K 0
 | n + 1 => K (n + 1)
theorem forceN_eq (m : Nat) (K : Nat → Option β) : forceN m K = K m := by cases m <;> rfl
def forceI (n : Int) (K : Int → Option β) : Option β := match n with
 | .ofNat m => forceN m fun m => K (.ofNat m)
 | .negSucc m => forceN m fun m => K (.negSucc m)
theorem forceI_eq (m : Int) (K : Int → Option β) : forceI m K = K m := by cases m <;> simp [forceI, forceN_eq]
def forceB (b : Bool) (K : Bool → Option β) : Option β := match b with
 | true => K true
 | false => K false
theorem forceB_eq (m : Bool) (K : Bool → Option β) : forceB m K = K m := by cases m <;> rfl
def fvE (v : AV) (K : AV → Option β) : Option β := match v with
 | .bool b => forceB b fun b => K (.bool b)
 | .int k n => forceI n fun n => K (.int k n)
 | .ptr k o => forceN k fun k => forceN o fun o => K (.ptr k o)
 | .slice k o l c e => forceN k fun k => forceN o fun o => forceN l fun l => K (.slice k o l c e)
 | .yld k => forceN k fun k => K (.yld k)
 | .dslice cs l c => forceN l fun l => K (.dslice cs l c)
 | v => K v
theorem fvE_eq (v : AV) (K : AV → Option β) : fvE v K = K v := by cases v <;> simp [fvE, forceN_eq, forceI_eq, forceB_eq]
end

def binIE (op : BinOp) (a b : Int) : Option AV := match op with
 | .add => if (-9223372036854775808 ≤ a + b ∧ a + b ≤ 9223372036854775807) then some (.int .i64 (a + b)) else none
 | .sub => if (-9223372036854775808 ≤ a - b ∧ a - b ≤ 9223372036854775807) then some (.int .i64 (a - b)) else none
 | .mul => if (-9223372036854775808 ≤ a * b ∧ a * b ≤ 9223372036854775807) then some (.int .i64 (a * b)) else none
 | .quo => if (0 ≤ a ∧ a ≤ 9223372036854775807 ∧ 0 < b) then some (.int .i64 (a / b)) else none
 | .rem => if (0 ≤ a ∧ 0 < b) then some (.int .i64 (a % b)) else none
 | .lss => some (.bool (decide (a < b)))
 | .leq => some (.bool (decide (a ≤ b)))
 | .gtr => some (.bool (decide (b < a)))
 | .geq => some (.bool (decide (b ≤ a)))
 | .eql => some (.bool (decide (a = b)))
 | .neq => some (.bool (!decide (a = b)))
 | _ => none
theorem binIE_run {op : BinOp} {a b : Int} {v : AV} {K : AV → Prop} (h : binIE op a b = some v) (hk : K v) : binI op a b K := by
 unfold binIE at h; unfold binI
 cases op <;> simp only at h ⊢ <;> first
  | (cases h; done)
  | (split at h <;> first | (cases h; done) | (rename_i hp; cases h; exact ⟨hp, hk⟩))
  | (cases h; exact hk)
def binWE (op : BinOp) (k : IntKind) (a b : Int) : Option AV := match op with
 | .add => some (.int k (k.wrap (a + b)))
 | .sub => some (.int k (k.wrap (a - b)))
 | .mul => some (.int k (k.wrap (a * b)))
 | .quo => if b ≠ 0 then some (.int k (k.wrap (a.tdiv b))) else none
 | .rem => if b ≠ 0 then some (.int k (a.tmod b)) else none
 | .and => some (.int k (k.wrap (BitVec.ofInt k.bits a &&& BitVec.ofInt k.bits b).toNat))
 | .or => some (.int k (k.wrap (BitVec.ofInt k.bits a ||| BitVec.ofInt k.bits b).toNat))
 | .xor => some (.int k (k.wrap (BitVec.ofInt k.bits a ^^^ BitVec.ofInt k.bits b).toNat))
 | .andNot => some (.int k (k.wrap (BitVec.ofInt k.bits a &&& ~~~(BitVec.ofInt k.bits b)).toNat))
 | .lss => some (.bool (decide (a < b)))
 | .leq => some (.bool (decide (a ≤ b)))
 | .gtr => some (.bool (decide (b < a)))
 | .geq => some (.bool (decide (b ≤ a)))
 | .eql => some (.bool (decide (a = b)))
 | .neq => some (.bool (!decide (a = b)))
 | _ => none
theorem binWE_run {op : BinOp} {k : IntKind} {a b : Int} {v : AV} {K : AV → Prop} (h : binWE op k a b = some v) (hk : K v) : binW op k a b K := by
 unfold binWE at h; unfold binW
 cases op <;> simp only at h ⊢ <;> first
  | (cases h; done)
  | (split at h <;> first | (cases h; done) | (rename_i hp; cases h; exact ⟨hp, hk⟩))
  | (cases h; exact hk)
def mapE (f : AX → AV) : List AX → List AV
 | [] => []
 | x :: r => f x :: mapE f r
theorem mapE_eq (f : AX → AV) : ∀ l, mapE f l = l.map f
 | [] => rfl
 | _ :: r => by simp [mapE, mapE_eq f r]
def POp.e (ev : AX → AV) : POp → Option AV
 | .mov x => some (ev x)
 | .pick c a b => match ev c with
  | .bool t => match t with
   | true => some (ev a)
   | false => some (ev b)
  | _ => none
 | .bin op x y => match ev x, ev y with
  | .int .i64 a, .int .i64 b => binIE op a b
  | .str a, .str b => match op with
   | .eql => some (.bool (decide (a = b)))
   | .neq => some (.bool (!decide (a = b)))
   | .add => if ((a.size + b.size : Nat) : Int) ≤ 9223372036854775807 then some (.str (a ++ b)) else none
   | _ => none
  | _, _ => none
 | .beq neg x y => match ev x, ev y with
  | .bool a, .bool b => some (.bool (if neg then !(a == b) else a == b))
  | _, _ => none
 | .binw op x y => match ev x, ev y with
  | .int k a, .int k' b => match op with
   | .shl => if 0 ≤ b then some (.int k (k.wrap (a * 2 ^ min b.toNat k.bits))) else none
   | .shr => if 0 ≤ b then some (.int k (a.fdiv (2 ^ min b.toNat k.bits))) else none
   | op => if k = k' then binWE op k a b else none
  | _, _ => none
 | .un op x => match op, ev x with
  | .not, .bool b => some (.bool (!b))
  | .neg, .int .i64 n => if (-9223372036854775807 ≤ n ∧ n ≤ 9223372036854775807) then some (.int .i64 (-n)) else none
  | .xor, .int k n => some (.int k (k.wrap (BitVec.ofInt k.bits (if k.signed then -1 else k.max) ^^^ BitVec.ofInt k.bits n).toNat))
  | _, _ => none
 | .conv k x => match ev x with
  | .int _ n => if (k.min ≤ n ∧ n ≤ k.max) then some (.int k n) else none
  | _ => none
 | .convw k x => match ev x with
  | .int _ n => some (.int k (k.wrap n))
  | _ => none
 | .fieldA off x => match ev x with
  | .dptr cs => some (.dptr (cs.drop off))
  | .ptr k o => some (.ptr k (o + off))
  | _ => none
 | .idxA e arr x i => match ev i with
  | .int _ i => match arr, ev x with
   | some n, .dptr cs => if (0 ≤ i ∧ i < n) then some (.dptr (cs.drop (i.toNat * e))) else none
   | some n, .ptr k o => if (0 ≤ i ∧ i < n) then some (.ptr k (o + i.toNat * e)) else none
   | none, .dslice cs n _ => if (0 ≤ i ∧ i < n) then some (.dptr (cs.drop (i.toNat * e))) else none
   | none, .slice k o n _ _ => if (0 ≤ i ∧ i < n) then some (.ptr k (o + i.toNat * e)) else none
   | _, _ => none
  | _ => none
 | .len str x => match str, ev x with
  | false, .dslice _ n _ => some (.int .i64 n)
  | false, .slice _ _ n _ _ => some (.int .i64 n)
  | false, .nils => some (.int .i64 0)
  | true, .str s => some (.int .i64 s.size)
  | _, _ => none
 | .extract i x => match ev x with
  | .tuple cs => cs[i]?
  | _ => none
 | .mkfn f caps => some (.func f (mapE ev caps))
 | .mkme f bs => some (.meth f (mapE ev bs))
 | .nilchk x => match ev x with
  | .ptr k o => some (.ptr k o)
  | .dptr cs => some (.dptr cs)
  | .func f cs => some (.func f cs)
  | _ => none
 | .mm mx x y => match ev x, ev y with
  | .int k a, .int _ b => some (.int k (if mx then (if b > a then b else a) else (if b < a then b else a)))
  | _, _ => none
 | .other => some .any
 | .panic => none
theorem POp.e_run {ev : AX → AV} {K : AV → Prop} {o : POp} {v : AV} (h : o.e ev = some v) (hk : K v) : o.run ev K := by
 cases o <;> simp only [POp.e, POp.run, fv_eq, fvs_eq] at h ⊢
 case mov x => cases h; exact hk
 case pick c a b =>
  generalize ev c = vc at h ⊢
  cases vc <;> simp only at h ⊢
  all_goals first | (cases h; done) | skip
  rename_i t
  cases t <;> simp only at h <;> cases h
  · exact Branch.ofF rfl hk
  · exact Branch.ofT rfl hk
 case bin op x y =>
  generalize ev x = vx at h ⊢
  generalize ev y = vy at h ⊢
  split at h
  · exact binIE_run h hk
  · cases op <;> simp only at h ⊢ <;> first | (cases h; exact hk) | (cases h; done) | skip
    split at h
    · cases h; exact ⟨‹_›, hk⟩
    · cases h
  · cases h
 case beq neg x y =>
  generalize ev x = vx at h ⊢
  generalize ev y = vy at h ⊢
  split at h
  · cases h; exact hk
  · cases h
 case binw op x y =>
  generalize ev x = vx at h ⊢
  generalize ev y = vy at h ⊢
  split at h
  · cases op <;> simp only at h ⊢
    all_goals (split at h <;> first | (cases h; done) | skip)
    all_goals first | (refine ⟨‹_›, ?_⟩; exact binWE_run h hk) | (cases h; exact ⟨‹_›, hk⟩)
  · cases h
 case un op x =>
  generalize ev x = vx at h ⊢
  split at h
  · cases h; exact hk
  · split at h
    · cases h; exact ⟨‹_›, hk⟩
    · cases h
  · cases h; exact hk
  · cases h
 case conv k x =>
  generalize ev x = vx at h ⊢
  split at h
  · split at h
    · cases h; exact ⟨‹_›, hk⟩
    · cases h
  · cases h
 case convw k x =>
  generalize ev x = vx at h ⊢
  split at h
  · cases h; exact hk
  · cases h
 case fieldA off x =>
  generalize ev x = vx at h ⊢
  split at h
  · cases h; exact hk
  · cases h; exact hk
  · cases h
 case idxA e arr x i =>
  generalize ev x = vx at h ⊢
  generalize ev i = vi at h ⊢
  split at h
  · split at h
    · split at h
      · cases h; exact ⟨‹_›, hk⟩
      · cases h
    · split at h
      · cases h; exact ⟨‹_›, hk⟩
      · cases h
    · split at h
      · cases h; exact ⟨‹_›, hk⟩
      · cases h
    · split at h
      · cases h; exact ⟨‹_›, hk⟩
      · cases h
    · cases h
  · cases h
 case len str x =>
  generalize ev x = vx at h ⊢
  split at h <;> first | (cases h; exact hk) | cases h
 case extract i x =>
  generalize ev x = vx at h ⊢
  split at h
  · simp only [h]; exact hk
  · cases h
 case mkfn f caps => cases h; rw [mapE_eq] at hk; exact hk
 case mkme f bs => cases h; rw [mapE_eq] at hk; exact hk
 case nilchk x =>
  generalize ev x = vx at h ⊢
  split at h <;> first | (cases h; exact hk) | cases h
 case mm mx x y =>
  generalize ev x = vx at h ⊢
  generalize ev y = vy at h ⊢
  split at h <;> first | (cases h; exact hk) | cases h
 case other => cases h; exact hk
 case panic => cases h
def takeE : Nat → List AV → Option (List AV)
 | 0, _ => some []
 | n + 1, c :: r => match takeE n r with
  | some l => some (c :: l)
  | none => none
 | _ + 1, [] => none
theorem takeE_run : ∀ {n : Nat} {cs l : List AV} {K : List AV → Prop}, takeE n cs = some l → K l → takeK n cs K
 | 0, _, _, _, h, hk => by simp only [takeE, Option.some.injEq] at h; subst h; exact hk
 | n + 1, c :: r, l, K, h, hk => by
  simp only [takeE] at h
  split at h
  · rename_i l' hl; cases h; simp only [takeK, fv_eq]; exact takeE_run hl hk
  · cases h
 | _ + 1, [], _, _, h, _ => by simp [takeE] at h
def loadE (agg : Bool) (n : Nat) (cs : List AV) : Option AV := match agg with
 | true => match takeE n cs with
  | some l => some (.agg l)
  | none => none
 | false => match cs with
  | c :: _ => some c
  | [] => none
theorem loadE_run {agg : Bool} {n : Nat} {cs : List AV} {v : AV} {K : AV → Prop} (h : loadE agg n cs = some v) (hk : K v) : loadK agg n cs K := by
 unfold loadE at h
 cases agg with
 | true =>
  simp only [loadK] at h ⊢
  split at h
  · rename_i l hl; cases h; exact takeE_run hl hk
  · cases h
 | false =>
  simp only [loadK_false] at h ⊢
  split at h
  · cases h; simp only [fv_eq]; exact hk
  · cases h
def lputE : List AV → Nat → List AV → Option (List AV)
 | cs, 0, [] => some cs
 | _ :: cs, 0, v :: l => bif scal v then (match lputE cs 0 l with
  | some r => some (v :: r)
  | none => none) else none
 | c :: cs, off + 1, l => match lputE cs off l with
  | some r => some (c :: r)
  | none => none
 | [], 0, _ :: _ => none
 | [], _ + 1, _ => none
theorem lputE_run : ∀ {cs : List AV} {off : Nat} {l r : List AV} {K : List AV → Prop}, lputE cs off l = some r → K r → lputK cs off l K
 | [], 0, [], r, K, h, hk => by simp only [lputE, Option.some.injEq] at h; subst h; simpa [lputK] using hk
 | _ :: _, 0, [], r, K, h, hk => by simp only [lputE, Option.some.injEq] at h; subst h; simpa [lputK] using hk
 | _ :: cs, 0, v :: l, r, K, h, hk => by
  simp only [lputE] at h; simp only [lputK]
  cases hv : scal v <;> simp only [hv, cond_true, cond_false] at h ⊢
  · cases h
  · split at h
    · rename_i r' hr; cases h; exact lputE_run hr hk
    · cases h
 | c :: cs, off + 1, l, r, K, h, hk => by
  simp only [lputE] at h; simp only [lputK]
  split at h
  · rename_i r' hr; cases h; exact lputE_run hr hk
  · cases h
 | [], 0, _ :: _, _, _, h, _ => by simp [lputE] at h
 | [], _ + 1, _, _, _, h, _ => by simp [lputE] at h
def eqCellsE : List Sc → List AV → List AV → Option Bool
 | [], [], [] => some true
 | k :: ks, c :: cs, d :: ds => match eqOne k c d with
  | some q => match eqCellsE ks cs ds with
   | some r => some (q && r)
   | none => none
  | none => none
 | _, _, _ => none
theorem eqCellsE_run : ∀ {ks : List Sc} {cs ds : List AV} {r : Bool} {K : Bool → Prop}, eqCellsE ks cs ds = some r → K r → eqCells ks cs ds K
 | [], [], [], r, K, h, hk => by simp only [eqCellsE, Option.some.injEq] at h; subst h; exact hk
 | k :: ks, c :: cs, d :: ds, r, K, h, hk => by
  simp only [eqCellsE] at h; simp only [eqCells]
  split at h
  · rename_i q hq
    split at h
    · rename_i r' hr; cases h; rw [hq]; exact eqCellsE_run hr hk
    · cases h
  · cases h
 | [], [], _ :: _, _, _, h, _ => by simp [eqCellsE] at h
 | [], _ :: _, _, _, _, h, _ => by simp [eqCellsE] at h
 | _ :: _, [], _, _, _, h, _ => by simp [eqCellsE] at h
 | _ :: _, _ :: _, [], _, _, h, _ => by simp [eqCellsE] at h
def buildE (ev : AX → AV) : List (Nat × Nat × AX) → List AV → Option (List AV)
 | [], cs => some cs
 | (off, sz, x) :: r, cs => match cellsOf (ev x) with
  | some l => bif Nat.beq l.length sz then (match lputE cs off l with
   | some cs => buildE ev r cs
   | none => none) else none
  | none => none
theorem buildE_run {ev : AX → AV} : ∀ {ps : List (Nat × Nat × AX)} {cs r : List AV} {K : List AV → Prop}, buildE ev ps cs = some r → K r → buildK ev ps cs K
 | [], _, _, _, h, hk => by simp only [buildE, Option.some.injEq] at h; subst h; exact hk
 | (off, sz, x) :: ps, cs, r, K, h, hk => by
  simp only [buildE] at h; simp only [buildK]
  split at h
  · rename_i l hl
    cases hb : Nat.beq l.length sz <;> simp only [hb, cond_true, cond_false] at h
    · cases h
    · split at h
      · rename_i cs' hcs; simp only [hl, hb, cond_true]; exact lputE_run hcs (buildE_run h hk)
      · cases h
  · cases h
def optE (ev : AX → AV) (d : Int) (x : Option AX) : Option Int := match x with
 | none => some d
 | some x => match ev x with
  | .int _ i => some i
  | _ => none
theorem optE_run {ev : AX → AV} {d i : Int} {x : Option AX} {K : Int → Prop} (h : optE ev d x = some i) (hk : K i) : optI ev d x K := by
 unfold optE at h; unfold optI
 split at h
 · cases h; exact hk
 · split at h
   · rename_i hx; cases h; simp only [hx]; exact hk
   · cases h
def VOp.e (ev : AX → AV) : VOp → Option AV
 | .field agg off n x => match ev x with
  | .agg cs => loadE agg n (cs.drop off)
  | _ => none
 | .idx agg e len x i => match ev x, ev i with
  | .agg cs, .int _ i => if (0 ≤ i ∧ i < len) then loadE agg e (cs.drop (i.toNat * e)) else none
  | _, _ => none
 | .sidx x i => match ev x, ev i with
  | .str s, .int _ i => if (0 ≤ i ∧ i < s.size) then some (.int .u8 ((s.data.getD i.toNat 0).toNat : Nat)) else none
  | _, _ => none
 | .build zero parts => match buildE ev parts zero with
  | some cs => some (.agg cs)
  | none => none
 | .eqa neg ks x y => match ev x, ev y with
  | .agg cs, .agg ds => match eqCellsE ks cs ds with
   | some r => some (.bool (if neg then !r else r))
   | none => none
  | _, _ => none
 | .isnil p neg x y => match p, ev x, ev y with
  | false, .nils, .nils => some (.bool (!neg))
  | false, .slice _ _ _ _ _, .nils => some (.bool neg)
  | false, .dslice _ n _, .nils => if 0 < n then some (.bool neg) else none
  | true, .nilp, .nilp => some (.bool (!neg))
  | true, .ptr _ _, .nilp => some (.bool neg)
  | true, .dptr _, .nilp => some (.bool neg)
  | _, _, _ => none
 | .sub e x lo hi mx => match ev x with
  | .dslice cs len cap => match optE ev 0 lo, optE ev len hi with
   | some l, some h => match mx with
    | none => if (0 ≤ l ∧ l ≤ h ∧ h ≤ len) then some (.dslice ((cs.drop (l.toNat * e)).take ((h - l).toNat * e)) (h - l).toNat (cap.map (· - l.toNat))) else none
    | some mx => match ev mx with
     | .int _ m => if (0 ≤ l ∧ l ≤ h ∧ h ≤ m ∧ m ≤ len) then some (.dslice ((cs.drop (l.toNat * e)).take ((h - l).toNat * e)) (h - l).toNat (some (m - l).toNat)) else none
     | _ => none
   | _, _ => none
  | .nils => match optE ev 0 lo, optE ev 0 hi with
   | some l, some h => match mx with
    | none => if (l = 0 ∧ h = 0) then some .nils else none
    | some mx => match ev mx with
     | .int _ m => if (l = 0 ∧ h = 0 ∧ m = 0) then some .nils else none
     | _ => none
   | _, _ => none
  | .slice k off len cap e' => match optE ev 0 lo, optE ev len hi with
   | some l, some h => match mx with
    | none => if e = e' then (if (0 ≤ l ∧ l < h ∧ h ≤ len) then some (.slice k (off + l.toNat * e) (h - l).toNat (cap.map (· - l.toNat)) e) else if (0 ≤ l ∧ l = h ∧ h ≤ len) then some (.dslice [] 0 none) else none) else none
    | some mx => match ev mx with
     | .int _ m => if (e = e' ∧ 0 ≤ l ∧ l < h ∧ h ≤ m ∧ m ≤ len) then some (.slice k (off + l.toNat * e) (h - l).toNat (some (m - l).toNat) e) else none
     | _ => none
   | _, _ => none
  | _ => none
 | .ssub x lo hi => match ev x with
  | .str s => match optE ev 0 lo, optE ev s.size hi with
   | some l, some h => if (0 ≤ l ∧ l ≤ h ∧ h ≤ s.size) then some (.str (s.extract l.toNat h.toNat)) else none
   | _, _ => none
  | _ => none
 | .s2a n x => match ev x with
  | .dslice cs len _ => if (0 < n ∧ n ≤ len) then some (.dptr cs) else none
  | .slice k off len _ _ => if n ≤ len then some (.ptr k off) else none
  | _ => none
 | .mkI t x => some (.ifc t (ev x))
 | .tas t zero x => match ev x with
  | .nili => some (.tuple [zero, .bool false])
  | .ifc t' c => bif Nat.beq t' t then some (.tuple [c, .bool true]) else some (.tuple [zero, .bool false])
  | _ => none
 | .isni neg x => match ev x with
  | .nili => some (.bool (!neg))
  | .ifc _ _ => some (.bool neg)
  | _ => none
theorem VOp.e_run {ev : AX → AV} {K : AV → Prop} {o : VOp} {v : AV} (h : o.e ev = some v) (hk : K v) : o.run ev K := by
 cases o <;> simp only [VOp.e, VOp.run] at h ⊢
 case field agg off n x =>
  generalize hevx : ev x = vx at h ⊢
  split at h
  · exact loadE_run h hk
  · cases h
 case idx agg e len x i =>
  generalize hevx : ev x = vx at h ⊢
  generalize hevi : ev i = vi at h ⊢
  split at h
  · split at h
    · exact ⟨‹_›, loadE_run h hk⟩
    · cases h
  · cases h
 case sidx x i =>
  generalize hevx : ev x = vx at h ⊢
  generalize hevi : ev i = vi at h ⊢
  split at h
  · split at h
    · cases h; exact ⟨‹_›, hk⟩
    · cases h
  · cases h
 case build zero parts =>
  split at h
  · rename_i cs hcs; cases h; exact buildE_run hcs hk
  · cases h
 case eqa neg ks x y =>
  generalize hevx : ev x = vx at h ⊢
  generalize hevy : ev y = vy at h ⊢
  split at h
  · split at h
    · rename_i r hr; cases h; exact eqCellsE_run hr hk
    · cases h
  · cases h
 case isnil p neg x y =>
  generalize hevx : ev x = vx at h ⊢
  generalize hevy : ev y = vy at h ⊢
  split at h <;> first | (cases h; exact hk) | (split at h <;> first | (cases h; exact ⟨‹_›, hk⟩) | cases h) | cases h
 case sub e x lo hi mx =>
  generalize hevx : ev x = vx at h ⊢
  split at h
  · split at h
    · rename_i l hh h1 h2
      refine optE_run h1 (optE_run h2 ?_)
      split at h
      · split at h
        · cases h; exact ⟨‹_›, hk⟩
        · cases h
      · split at h
        · rename_i hm
          split at h
          · cases h; simp only [hm]; exact ⟨‹_›, hk⟩
          · cases h
        · cases h
    · cases h
  · split at h
    · rename_i l hh h1 h2
      refine optE_run h1 (optE_run h2 ?_)
      split at h
      · split at h
        · cases h; exact ⟨‹_›, hk⟩
        · cases h
      · split at h
        · rename_i hm
          split at h
          · cases h; simp only [hm]; exact ⟨‹_›, hk⟩
          · cases h
        · cases h
    · cases h
  · split at h
    · rename_i l hh h1 h2
      refine optE_run h1 (optE_run h2 ?_)
      split at h
      · split at h
        · rename_i he
          refine ⟨he, ?_⟩
          split at h
          · cases h; exact .inl ⟨‹_›, hk⟩
          · split at h
            · cases h; exact .inr ⟨‹_›, hk⟩
            · cases h
        · cases h
      · split at h
        · rename_i hm
          split at h
          · cases h; simp only [hm]; exact ⟨‹_›, hk⟩
          · cases h
        · cases h
    · cases h
  · cases h
 case ssub x lo hi =>
  generalize hevx : ev x = vx at h ⊢
  split at h
  · split at h
    · rename_i l hh h1 h2
      refine optE_run h1 (optE_run h2 ?_)
      split at h
      · cases h; exact ⟨‹_›, hk⟩
      · cases h
    · cases h
  · cases h
 case s2a n x =>
  generalize hevx : ev x = vx at h ⊢
  split at h
  · split at h
    · cases h; exact ⟨‹_›, hk⟩
    · cases h
  · split at h
    · cases h; exact ⟨‹_›, hk⟩
    · cases h
  · cases h
 case mkI t x => simp only [fv_eq]; cases h; exact hk
 case tas t z x =>
  generalize hevx : ev x = vx at h ⊢
  split at h
  · cases h; exact hk
  · rename_i t' c
    cases hb : Nat.beq t' t <;> simp only [hb, cond_true, cond_false] at h ⊢ <;> (cases h; exact hk)
  · cases h
 case isni neg x =>
  generalize hevx : ev x = vx at h ⊢
  split at h <;> first | (cases h; exact hk) | cases h
end Go.Eng

namespace Go.Eng
open Go
variable [Globs]

structure EH where
 nx : Nat
 bs : BT AB
def EH.get (T : EH) (k : Nat) : AB := match T.bs.get k with
 | some b => b
 | none => .dead
def EH.nil : EH := ⟨0, .nil⟩
def EH.put (T : EH) (k : Nat) (b : AB) : Option EH := bif b.isIt then none else (match BT.set b 40 T.bs k with
 | some bs => some ⟨T.nx, bs⟩
 | none => none)
def EH.push (T : EH) (b : AB) : Option EH := bif b.isIt then none else (match BT.set b 40 T.bs T.nx with
 | some bs => forceN (T.nx + 1) fun n => some ⟨n, bs⟩
 | none => none)
def AB.noit : AB → Prop
 | .iter _ _ _ => False
 | _ => True
theorem isIt_of {b : AB} (h : b.noit) : b.isIt = false := by cases b <;> first | rfl | exact h.elim
theorem noit_of {b : AB} (h : b.isIt = false) : b.noit := by cases b <;> first | trivial | cases h
structure RepH (T : EH) (H : Heap) : Prop where
 nx : H.nx = T.nx
 get : H.get = T.get
 noit : ∀ j, (H.get j).noit
theorem RepH.free {T : EH} {H : Heap} (R : RepH T H) (p n : Nat) : noIter T.get p n = true := noIter_of (fun j k l c e => by have := R.noit j; rw [R.get, e] at this; exact this) n
theorem RepH.nil : RepH EH.nil Heap.nil := ⟨rfl, rfl, fun _ => trivial⟩
theorem RepH.put {T T' : EH} {H : Heap} {k : Nat} {b : AB} (h : T.put k b = some T') (R : RepH T H) : RepH T' (H.set k b) := by
 unfold EH.put at h
 cases hb : b.isIt <;> simp only [hb, cond_true, cond_false, reduceCtorEq] at h
 split at h
 · rename_i bs hbs
   cases h
   refine ⟨R.nx, funext fun j => ?_, fun j => by rw [Heap.get_set]; split; exact noit_of hb; exact R.noit j⟩
   rw [Heap.get_set, R.get]
   simp only [EH.get, BT.get_set b hbs j]
   by_cases e : k = j <;> simp [e]
 · cases h
theorem RepH.push {T T' : EH} {H : Heap} {b : AB} (h : T.push b = some T') (R : RepH T H) : RepH T' (H.push b) := by
 unfold EH.push at h
 cases hb : b.isIt <;> simp only [hb, cond_true, cond_false, reduceCtorEq] at h
 split at h
 · rename_i bs hbs
   rw [forceN_eq] at h; cases h
   refine ⟨by simp [Heap.push, R.nx], funext fun j => ?_, fun j => by rw [Heap.get_push]; split; exact noit_of hb; exact R.noit j⟩
   rw [Heap.get_push, R.get, R.nx]
   simp only [EH.get, BT.get_set b hbs j]
   by_cases e : T.nx = j <;> simp [e]
 · cases h
structure RepF (F : BT AV) (fr : Fr) : Prop where
 get : ∀ t, look fr t = (F.get t).getD .any
def AX.eF (F : BT AV) : AX → AV
 | .t n => match F.get n with
  | some v => v
  | none => .any
 | .c v => v
 | .g n => .dptr (globOf n)
theorem RepF.ev {F : BT AV} {fr : Fr} (R : RepF F fr) : AX.ev fr = AX.eF F := by
 funext x
 cases x with
 | t n => simp only [AX.ev, AX.eF, R.get]; cases F.get n <;> rfl
 | c v => rfl
 | g n => rfl
def putE (F : BT AV) (d : Option Nat) (v : AV) : Option (BT AV) := match d with
 | none => some F
 | some t => fvE v fun v => BT.set v 24 F t
theorem RepF.put {F F' : BT AV} {fr : Fr} {d : Option Nat} {v : AV} (h : putE F d v = some F') (R : RepF F fr) : RepF F' (put fr d v) := by
 cases d with
 | none => simp only [putE, Option.some.injEq] at h; subst h; exact R
 | some t =>
  simp only [putE, fvE_eq] at h
  refine ⟨fun u => ?_⟩
  rw [BT.get_set v h u]
  simp only [Eng.put, look]
  by_cases e : t = u
  · subst e; simp
  · rw [beq_false e, if_neg e]; exact R.get u
theorem RepF.know {F : BT AV} {fr : Fr} {s : Nat} {b : Bool} (R : RepF F fr) (h : look fr s = .bool b) : RepF F ((s, .bool b) :: fr) :=
 ⟨fun u => by
  simp only [look]
  by_cases e : s = u
  · subst e; rw [← R.get, h]; simp
  · rw [beq_false e]; exact R.get u⟩

def HOp.e (ev : AX → AV) (T : EH) : HOp → Option (AV × EH)
 | .load agg n x => match ev x with
  | .dptr cs => match loadE agg n cs with
   | some v => some (v, T)
   | none => none
  | .ptr k off => match T.get k with
   | .cells cs => match loadE agg n (cs.drop off) with
    | some v => some (v, T)
    | none => none
   | _ => none
  | _ => none
 | .alloc zero => match T.push (.cells zero) with
  | some T' => some (.ptr T.nx 0, T')
  | none => none
 | .box x => match cellsOf (ev x) with
  | some l => match T.push (.cells l) with
   | some T' => some (.ptr T.nx 0, T')
   | none => none
  | none => none
 | .store n p x => match ev p with
  | .ptr k off => match T.get k with
   | .cells cs => match cellsOf (ev x) with
    | some l => bif Nat.beq l.length n then (match lputE cs off l with
     | some cs' => match T.put k (.cells cs') with
      | some T' => some (.any, T')
      | none => none
     | none => none) else none
    | none => none
   | _ => none
  | _ => none
theorem HOp.e_run {ev : AX → AV} {T T' : EH} {H : Heap} {o : HOp} {v : AV} (h : o.e ev T = some (v, T')) (R : RepH T H) : ∃ H', RepH T' H' ∧ ∀ K : AV → Heap → Prop, K v H' → o.run ev H K := by
 cases o <;> simp only [HOp.e, HOp.run, R.get, pushK_eq, setK_eq] at h ⊢
 case load agg n x =>
  generalize ev x = vx at h ⊢
  split at h
  · split at h
    · rename_i u hu; cases h; exact ⟨H, R, fun K hk => loadE_run hu hk⟩
    · cases h
  · split at h
    · rename_i cs hcs
      split at h
      · rename_i u hu; cases h; refine ⟨H, R, fun K hk => ?_⟩
        simp only [hcs]; exact loadE_run hu hk
      · cases h
    · cases h
  · cases h
 case alloc zero =>
  split at h
  · rename_i T2 hT; cases h
    exact ⟨_, R.push hT, fun K hk => by rw [R.nx]; exact hk⟩
  · cases h
 case box x =>
  split at h
  · rename_i l hl
    split at h
    · rename_i T2 hT; cases h
      exact ⟨_, R.push hT, fun K hk => by simp only [hl]; rw [R.nx]; exact hk⟩
    · cases h
  · cases h
 case store n p x =>
  generalize ev p = vp at h ⊢
  split at h
  · split at h
    · rename_i cs hcs
      split at h
      · rename_i l hl
        cases hb : Nat.beq l.length n <;> simp only [hb, cond_true, cond_false] at h
        · cases h
        · split at h
          · rename_i cs' hp
            split at h
            · rename_i T2 hT; cases h
              exact ⟨_, R.put hT, fun K hk => by simp only [hcs, hl, hb, cond_true]; exact lputE_run hp hk⟩
            · cases h
          · cases h
      · cases h
    · cases h
  · cases h
def mapE0 (η : Nat → AB) (m : AV) : Option (Option Nat × List (AV × AV)) := match m with
 | .nilm => some (none, [])
 | .map p => match η p with
  | .map es => some (some p, es)
  | _ => none
 | _ => none
theorem mapE0_run {η : Nat → AB} {m : AV} {p : Option Nat} {es : List (AV × AV)} {K : Option Nat → List (AV × AV) → Prop} (h : mapE0 η m = some (p, es)) (hk : K p es) : mapN η m K := by
 unfold mapE0 at h; unfold mapN
 split at h
 · cases h; exact hk
 · split at h
   · rename_i hes; cases h; simp only [hes]; exact hk
   · cases h
 · cases h
def srcE (η : Nat → AB) (e : Nat) (x : AV) : Option (List AV × Nat) := match x with
 | .dslice cs n _ => if n * e ≤ cs.length then some (cs.take (n * e), n) else none
 | .nils => some ([], 0)
 | .slice k off n _ _ => match η k with
  | .cells cs => if off + n * e ≤ cs.length then some ((cs.drop off).take (n * e), n) else none
  | _ => none
 | _ => none
theorem srcE_run {η : Nat → AB} {e n : Nat} {x : AV} {l : List AV} {K : List AV → Nat → Prop} (h : srcE η e x = some (l, n)) (hk : K l n) : srcK η e x K := by
 unfold srcE at h; unfold srcK
 split at h
 · split at h
   · cases h; exact ⟨‹_›, hk⟩
   · cases h
 · cases h; exact hk
 · split at h
   · split at h
     · rename_i hcs _; cases h; simp only [hcs]; exact ⟨‹_›, hk⟩
     · cases h
   · cases h
 · cases h
instance (n bytes : Nat) : Decidable (fits n bytes) := by unfold fits; infer_instance
theorem all_scal {l : List AV} (h : l.all scal = true) : ∀ c ∈ l, scal c = true := by simpa using h
def MOp.e (ev : AX → AV) (T : EH) : MOp → Option (AV × EH)
 | .mk => match T.push (.map []) with
  | some T' => some (.map T.nx, T')
  | none => none
 | .get ok kk zero m k => match mapE0 T.get (ev m) with
  | some (_, es) => bif keyOk kk (ev k) then (match mfind kk (ev k) es with
   | some r => some (mval ok zero r, T)
   | none => none) else none
  | none => none
 | .set kk m k v => match mapE0 T.get (ev m) with
  | some (some p, es) => bif keyOk kk (ev k) then (fvE (ev v) fun v => match mput kk (ev k) v es with
   | some es' => match T.put p (.map es') with
    | some T' => some (.any, T')
    | none => none
   | none => none) else none
  | _ => none
 | .del kk m k => match mapE0 T.get (ev m) with
  | some (some p, es) => bif keyOk kk (ev k) then (match mdel kk (ev k) es with
   | some es' => match T.put p (.map es') with
    | some T' => some (.tuple [], T')
    | none => none
   | none => none) else none
  | _ => none
 | .len m => match mapE0 T.get (ev m) with
  | some (_, es) => some (.int .i64 es.length, T)
  | none => none
 | .range _ => none
 | .next _ => none
 | .entry _ => none
 | .delw _ _ _ _ => none
 | .copyS d s => match ev d with
  | .slice k off n _ e' => match T.get k with
   | .cells cs => match srcE T.get 1 (strD (ev s)) with
    | some (ds, m) => if e' = 1 then (bif Nat.ble m n then (match lputE cs off ds with
     | some cs' => match T.put k (.cells cs') with
      | some T' => some (.int .i64 m, T')
      | none => none
     | none => none) else (match lputE cs off (ds.take (n * 1)) with
     | some cs' => match T.put k (.cells cs') with
      | some T' => some (.int .i64 n, T')
      | none => none
     | none => none)) else none
    | none => none
   | _ => none
  | _ => none
 | .copy e d s => match ev d with
  | .slice k off n _ e' => match T.get k with
   | .cells cs => match srcE T.get e (ev s) with
    | some (ds, m) => if e' = e then (bif Nat.ble m n then (match lputE cs off ds with
     | some cs' => match T.put k (.cells cs') with
      | some T' => some (.int .i64 m, T')
      | none => none
     | none => none) else (match lputE cs off (ds.take (n * e)) with
     | some cs' => match T.put k (.cells cs') with
      | some T' => some (.int .i64 n, T')
      | none => none
     | none => none)) else none
    | none => none
   | _ => none
  | _ => none
theorem MOp.e_run {ev : AX → AV} {T T' : EH} {H : Heap} {o : MOp} {v : AV} (h : o.e ev T = some (v, T')) (R : RepH T H) : ∃ H', RepH T' H' ∧ ∀ K : AV → Heap → Prop, K v H' → o.run ev H K := by
 cases o <;> simp only [MOp.e, MOp.run, mkMapK_eq, mapK, setK_eq, R.get, fvE_eq, R.free, Bool.and_true] at h ⊢
 case mk =>
  split at h
  · rename_i T2 hT; cases h
    exact ⟨_, R.push hT, fun K hk => by rw [R.nx]; exact hk⟩
  · cases h
 case get ok kk zero m k =>
  split at h
  · rename_i p es hm
    cases hb : keyOk kk (ev k) <;> simp only [hb, cond_true, cond_false] at h
    · cases h
    · split at h
      · rename_i r hr; cases h
        exact ⟨H, R, fun K hk => mapE0_run hm (by simp only [cond_true]; exact ⟨r, hr, hk⟩)⟩
      · cases h
  · cases h
 case set kk m k x =>
  split at h
  · rename_i p es hm
    cases hb : (keyOk kk (ev k)) <;> simp only [hb, cond_true, cond_false] at h
    · cases h
    · split at h
      · rename_i es' hr
        split at h
        · rename_i T2 hT; cases h
          exact ⟨_, R.put hT, fun K hk => mapE0_run hm (by simp only [cond_true]; exact ⟨es', hr, hk⟩)⟩
        · cases h
      · cases h
  · cases h
 case del kk m k =>
  split at h
  · rename_i p es hm
    cases hb : keyOk kk (ev k) <;> simp only [hb, cond_true, cond_false] at h
    · cases h
    · split at h
      · rename_i es' hr
        split at h
        · rename_i T2 hT; cases h
          exact ⟨_, R.put hT, fun K hk => mapE0_run hm (by simp only [cond_true]; exact ⟨es', hr, hk⟩)⟩
        · cases h
      · cases h
  · cases h
 case range m => cases h
 case next m => cases h
 case entry m => cases h
 case delw _ _ _ _ => cases h
 case copy e d s =>
  generalize ev d = vd at h ⊢
  split at h
  · rename_i k off n cap e'
    split at h
    · rename_i cs hcs
      split at h
      · rename_i ds m hs
        split at h
        · rename_i he
          cases hb : Nat.ble m n <;> simp only [hb, cond_true, cond_false] at h
          · split at h
            · rename_i cs' hl
              split at h
              · rename_i T2 hT; cases h
                refine ⟨_, R.put hT, fun K hk => ?_⟩
                simp only [hcs]
                exact srcE_run hs ⟨he, .ofF (decide_eq_false (fun e => by have := Nat.ble_eq_true_of_le e; rw [this] at hb; cases hb)) (by unfold cpK; exact lputE_run hl (by rw [setK_eq]; exact hk))⟩
              · cases h
            · cases h
          · split at h
            · rename_i cs' hl
              split at h
              · rename_i T2 hT; cases h
                refine ⟨_, R.put hT, fun K hk => ?_⟩
                simp only [hcs]
                exact srcE_run hs ⟨he, .ofT (decide_eq_true (Nat.le_of_ble_eq_true hb)) (by unfold cpK; exact lputE_run hl (by rw [setK_eq]; exact hk))⟩
              · cases h
            · cases h
        · cases h
      · cases h
    · cases h
  · cases h
 case copyS d s =>
  generalize ev d = vd at h ⊢
  split at h
  · rename_i k off n cap e'
    split at h
    · rename_i cs hcs
      split at h
      · rename_i ds m hs
        split at h
        · rename_i he
          cases hb : Nat.ble m n <;> simp only [hb, cond_true, cond_false] at h
          · split at h
            · rename_i cs' hl
              split at h
              · rename_i T2 hT; cases h
                refine ⟨_, R.put hT, fun K hk => ?_⟩
                simp only [hcs]
                exact srcE_run hs ⟨he, .ofF (decide_eq_false (fun e => by have := Nat.ble_eq_true_of_le e; rw [this] at hb; cases hb)) (by unfold cpK; exact lputE_run hl (by rw [setK_eq]; exact hk))⟩
              · cases h
            · cases h
          · split at h
            · rename_i cs' hl
              split at h
              · rename_i T2 hT; cases h
                refine ⟨_, R.put hT, fun K hk => ?_⟩
                simp only [hcs]
                exact srcE_run hs ⟨he, .ofT (decide_eq_true (Nat.le_of_ble_eq_true hb)) (by unfold cpK; exact lputE_run hl (by rw [setK_eq]; exact hk))⟩
              · cases h
            · cases h
        · cases h
      · cases h
    · cases h
  · cases h
 case len m =>
  split at h
  · rename_i p es hm; cases h
    exact ⟨H, R, fun K hk => mapE0_run hm hk⟩
  · cases h
def DOp.e (ev : AX → AV) (η : Nat → AB) : DOp → Option AV
 | .bslice e len zero parts => match buildE ev (parts.map fun x => (x.1, e, x.2)) (rep zero len) with
  | some cs => bif noLocB cs then some (.dslice cs len (some len)) else none
  | none => none
 | .append e bytes s x => match ev s, ev x with
  | .dslice cs len cap, .dslice ds n _ => if cap = some len ∧ len * e ≤ cs.length ∧ n * e ≤ ds.length ∧ fits (len + n) bytes ∧ (ds.take (n * e)).all scal = true then some (.dslice (cs.take (len * e) ++ ds.take (n * e)) (len + n) none) else none
  | .dslice cs len cap, .nils => if cap = some len then some (.dslice cs len none) else none
  | .nils, .dslice ds n _ => if n * e ≤ ds.length ∧ fits n bytes ∧ (ds.take (n * e)).all scal = true then some (.dslice (ds.take (n * e)) n none) else none
  | _, _ => none
 | .asub e n x lo hi => match ev x with
  | .ptr k off => match η k with
   | .cells cs => match optE ev 0 lo, optE ev n hi with
    | some l, some h => if 0 ≤ l ∧ l < n ∧ l ≤ h ∧ h ≤ n ∧ off + n * e ≤ cs.length then some (.slice k (off + l.toNat * e) (h - l).toNat (some (n - l.toNat)) e) else none
    | _, _ => none
   | _ => none
  | .dptr cs => match optE ev 0 lo, optE ev n hi with
   | some l, some h => if 0 ≤ l ∧ l ≤ h ∧ h ≤ n then some (.dslice ((cs.drop (l.toNat * e)).take ((h - l).toNat * e)) (h - l).toNat (some (n - l.toNat))) else none
   | _, _ => none
  | _ => none
 | .sl2s x => match srcE η 1 (ev x) with
  | some (ds, _) => match bytesOf ds with
   | some l => some (.str (toBytes l))
   | none => none
  | none => none
theorem DOp.e_run {ev : AX → AV} {η : Nat → AB} {o : DOp} {v : AV} {K : AV → Prop} (h : o.e ev η = some v) (hk : K v) : o.run ev η K := by
 cases o <;> simp only [DOp.e, DOp.run] at h ⊢
 case bslice e len zero parts =>
  split at h
  · rename_i cs hcs
    cases hb : noLocB cs <;> simp only [hb, cond_true, cond_false] at h
    · cases h
    · cases h; exact buildE_run hcs (by simp only [hb, cond_true]; exact hk)
  · cases h
 case append e bytes s x =>
  generalize ev s = vs at h ⊢
  generalize ev x = vx at h ⊢
  split at h
  · split at h
    · rename_i hp; cases h; exact ⟨⟨hp.1, hp.2.1, hp.2.2.1, hp.2.2.2.1, all_scal hp.2.2.2.2⟩, hk⟩
    · cases h
  · split at h
    · cases h; exact ⟨‹_›, hk⟩
    · cases h
  · split at h
    · rename_i hp; cases h; exact ⟨⟨hp.1, hp.2.1, all_scal hp.2.2⟩, hk⟩
    · cases h
  · cases h
 case asub e n x lo hi =>
  generalize hev : ev x = vx at h ⊢
  split at h
  · split at h
    · rename_i cs hcs
      split at h
      · rename_i l hh h1 h2
        split at h
        · cases h; simp only [hcs]; exact optE_run h1 (optE_run h2 ⟨‹_›, hk⟩)
        · cases h
      · cases h
    · cases h
  · split at h
    · rename_i l hh h1 h2
      split at h
      · cases h; exact optE_run h1 (optE_run h2 ⟨‹_›, hk⟩)
      · cases h
    · cases h
  · cases h
 case sl2s x =>
  split at h
  · rename_i ds n hs
    split at h
    · rename_i l hl; cases h; exact srcE_run hs ⟨l, hl, hk⟩
    · cases h
  · cases h
def appE (cur : Nat → AB) (p e bytes : Nat) (sv xv : AV) : Option (AV × AB × Option Nat) := match srcE cur e xv with
 | some (ds, n) => match sv with
  | .slice k off len _ e' => match cur k with
   | .cells cs => if e' = e ∧ off = 0 ∧ cs.length = len * e ∧ fits (len + n) bytes ∧ ds.all scal = true then some (.slice p 0 (len + n) none e, .cells (cs ++ ds), some k) else none
   | _ => none
  | .dslice cs len cap => bif Nat.beq n 0 then some (.dslice cs len cap, .dead, none) else if cap = some len ∧ len * e ≤ cs.length ∧ fits (len + n) bytes ∧ ds.all scal = true then some (.slice p 0 (len + n) none e, .cells (cs.take (len * e) ++ ds), none) else none
  | .nils => bif Nat.beq n 0 then some (.nils, .dead, none) else if fits n bytes ∧ ds.all scal = true then some (.slice p 0 n none e, .cells ds, none) else none
  | _ => none
 | none => none
def appFE (cur : Nat → AB) (p e bytes : Nat) (sv xv : AV) : Option (AV × AB × Option Nat) := match sv with
 | .slice k off len (some c) e' => match cur k with
  | .cells cs => match srcE cur e xv with
   | some (ds, n) => if e' = e ∧ c = len ∧ 0 < n ∧ off + len * e ≤ cs.length ∧ fits (len + n) bytes ∧ ds.all scal = true then some (.slice p 0 (len + n) none e, .cells ((cs.drop off).take (len * e) ++ ds), none) else none
   | none => none
  | _ => none
 | _ => none
def LOp.e (ev : AX → AV) (cur : Nat → AB) (p : Nat) : LOp → Option (AV × AB × Option Nat)
 | .make e bytes zero n => match ev n with
  | .int _ i => if 0 ≤ i ∧ (bytes : Int) * i ≤ 281474976710656 ∧ i ≤ 9223372036854775807 then some (.slice p 0 i.toNat (some i.toNat) e, .cells (rep zero i.toNat), none) else none
  | _ => none
 | .makec e bytes zero n c => match ev n, ev c with
  | .int _ i, .int _ j => if 0 ≤ i ∧ i ≤ j ∧ (bytes : Int) * j ≤ 281474976710656 ∧ j ≤ 9223372036854775807 then some (.slice p 0 i.toNat (some j.toNat) e, .cells (rep zero j.toNat), none) else none
  | _, _ => none
 | .s2b x => match ev x with
  | .str s => some (.slice p 0 s.size none 1, .cells (strCells s), none)
  | _ => none
 | .bslice e len zero parts => match buildE ev (parts.map fun x => (x.1, e, x.2)) (rep zero len) with
  | some cs => some (.slice p 0 len (some len) e, .cells cs, none)
  | none => none
 | .append e bytes s x => appE cur p e bytes (ev s) (ev x)
 | .appendS bytes s x => appE cur p 1 bytes (ev s) (strD (ev x))
 | .appendF e bytes s x => match appE cur p e bytes (ev s) (ev x) with
  | some r => some r
  | none => appFE cur p e bytes (ev s) (ev x)
theorem appE_run {cur : Nat → AB} {p e bytes : Nat} {sv xv : AV} {v : AV} {ab : AB} {kl : Option Nat} {K : AV → AB → Option Nat → Prop} (h : appE cur p e bytes sv xv = some (v, ab, kl)) (hk : K v ab kl) : appN cur cur p e bytes sv xv K := by
 unfold appE at h
 split at h
 · rename_i ds n hsrc
   unfold appN
   split at h
   · split at h
     · rename_i cs hcs
       split at h
       · rename_i hp; cases h
         simp only [appK, hcs]
         exact srcE_run hsrc ⟨⟨hp.1, hp.2.1, hp.2.2.1, hp.2.2.2.1, all_scal hp.2.2.2.2⟩, hk⟩
       · cases h
     · cases h
   · cases hb : Nat.beq n 0 <;> simp only [hb, cond_true, cond_false] at h
     · split at h
       · rename_i hp; cases h
         exact srcE_run hsrc (Branch.ofF (decide_eq_false (fun e => by subst e; cases hb)) ⟨⟨hp.1, hp.2.1, hp.2.2.1, all_scal hp.2.2.2⟩, hk⟩)
       · cases h
     · cases h
       exact srcE_run hsrc (Branch.ofT (decide_eq_true (Nat.eq_of_beq_eq_true hb)) hk)
   · cases hb : Nat.beq n 0 <;> simp only [hb, cond_true, cond_false] at h
     · split at h
       · rename_i hp; cases h
         exact srcE_run hsrc (Branch.ofF (decide_eq_false (fun e => by subst e; cases hb)) ⟨⟨hp.1, all_scal hp.2⟩, hk⟩)
       · cases h
     · cases h
       exact srcE_run hsrc (Branch.ofT (decide_eq_true (Nat.eq_of_beq_eq_true hb)) hk)
   · cases h
 · cases h
theorem appFE_run {cur : Nat → AB} {p e bytes : Nat} {sv xv : AV} {v : AV} {ab : AB} {kl : Option Nat} {K : AV → AB → Option Nat → Prop} (h : appFE cur p e bytes sv xv = some (v, ab, kl)) (hk : K v ab kl) : appF0 cur cur p e bytes sv xv K := by
 unfold appFE at h
 unfold appF0
 split at h
 · split at h
   · rename_i cs hcs
     split at h
     · rename_i ds n hsrc
       split at h
       · rename_i hp; cases h
         simp only [hcs]
         exact srcE_run hsrc ⟨⟨hp.1, hp.2.1, hp.2.2.1, hp.2.2.2.1, hp.2.2.2.2.1, all_scal hp.2.2.2.2.2⟩, hk⟩
       · cases h
     · cases h
   · cases h
 · cases h
theorem LOp.e_run {ev : AX → AV} {cur : Nat → AB} {p : Nat} {o : LOp} {v : AV} {ab : AB} {kl : Option Nat} {K : AV → AB → Option Nat → Prop} (h : o.e ev cur p = some (v, ab, kl)) (hk : K v ab kl) : o.run ev cur cur p K := by
 cases o <;> simp only [LOp.e, LOp.run] at h ⊢
 case make e bytes zero n =>
  generalize ev n = vn at h ⊢
  split at h
  · rename_i k i
    split at h
    · cases h; exact ⟨‹_›, hk⟩
    · cases h
  · cases h
 case makec e bytes zero n c =>
  generalize ev n = vn at h ⊢
  generalize ev c = vc at h ⊢
  split at h
  · split at h
    · cases h; exact ⟨‹_›, hk⟩
    · cases h
  · cases h
 case s2b x =>
  generalize ev x = vx at h ⊢
  split at h
  · cases h; exact hk
  · cases h
 case bslice e len zero parts =>
  split at h
  · rename_i cs hcs; cases h; exact buildE_run hcs hk
  · cases h
 case append e bytes s x => exact appE_run h hk
 case appendS bytes s x => exact appE_run h hk
 case appendF e bytes s x =>
  split at h
  · rename_i r hr; cases h
    exact .inl (appE_run hr hk)
  · exact .inr (appFE_run h hk)
end Go.Eng

namespace Go.Eng
open Go
variable [Globs]

def putL (fr : Fr) : List Nat → List AV → Fr
 | t :: ps, v :: vs => putL ((t, v) :: fr) ps vs
 | _, _ => fr
theorem relF_putL {N : Nat} {M : Mem} {μ : Pos} : ∀ {ps : List Nat} {vs : List AV} {us : List Value} {fr : Fr} {tmps : Array Value}, RelF N M μ fr tmps → ps.all (Nat.blt · N) = true → relL M vs μ us → vs.length = ps.length →
 RelF N M μ (putL fr ps vs) ((ps.zip us).foldl (fun tmps x => tmps.setIfInBounds x.1 x.2) tmps)
 | [], [], _, fr, tmps, F, _, _, _ => by simpa [putL] using F
 | t :: ps, v :: vs, us, fr, tmps, F, ha, hr, hl => by
  simp only [relL] at hr
  obtain ⟨u, r, rfl, h1, h2⟩ := hr
  simp only [List.all_cons, Bool.and_eq_true] at ha
  simp only [putL, List.zip_cons_cons, List.foldl_cons]
  have F1 := RelF.put (a := ⟨tmps, []⟩) (d := some t) F (by simpa [dstOk] using ha.1) h1
  exact relF_putL F1 ha.2 h2 (by simpa using hl)
 | [], _ :: _, _, _, _, _, _, _, hl => by simp at hl
 | _ :: _, [], _, _, _, _, _, _, hl => by simp at hl
def roundK (n k : Nat) (K : AV → Heap → Prop) (x : XA) (_ : Fr) (H : Heap) : Prop := match H.get k with
 | .loop .busy id fr2 => match x with
  | .normal => setK H k (.loop .ready id fr2) (RetA n K (.bool true))
  | .ret => setK H k (.loop (.done .ret) id fr2) (RetA n K (.bool false))
  | .exit i => setK H k (.loop (.done (.exit i)) id fr2) (RetA n K (.bool false))
  | .pan _ => False
 | _ => False
def assignK (P : Program) (n k : Nat) (B : AC) (K : AV → Heap → Prop) (x : XA) (fr : Fr) (H : Heap) : Prop := match x with
 | .normal => match H.get k with
  | .loop .ready id fr2 => setK H k (.loop .busy id fr2) fun H2 => B.run P n (roundK n k K) fr H2
  | _ => False
 | _ => False
def rsOf : Option RJ → RS
 | none => .ready
 | some j => .done j
section
variable {P : Program}
theorem end_round [Pend] {n N k b s : Nat} {M0 : Mem} {μ0 : Pos} {H0 H : Heap} {w0 w : World} {id : Nat} {fr fr2 : Fr} {a : Act} {K : AV → Heap → Prop} (S : St N n M0 μ0 H0 w0 fr H a w) (R0 : Rel M0 μ0 H0 w0) (hn0 : H0.nx = n) (hμ0 : μ0 k = some (b, s)) (hk : H.get k = .loop .busy id fr2) (jump : Option RJ)
 (hr : RetA n K (.bool jump.isNone) (H.set k (.loop (rsOf jump) id fr2))) :
 ∃ v w', (Instr.endRound b (jump.map RJ.code)).run P w = .ok v w' ∧ ∃ u M' μ' H' c, Ending.returned v = .returned u ∧ Rel M' μ' H' w' ∧ relV M' c μ' u ∧ Move M0 μ0 H0 w0 M' μ' H' w' ∧ K c H' := by
 obtain ⟨M, μ, R, F, hn, G, _⟩ := S
 have hμ : μ k = some (b, s) := by rw [G.pin k (by rw [← hn0]; exact R0.pos_lt hμ0)]; exact hμ0
 obtain ⟨b', s', g1, r, g2, g3, g4, g5⟩ := R.loops _ _ _ _ hk
 rw [hμ] at g1; cases g1
 have hne : (jump.map RJ.code).isNone = jump.isNone := by cases jump <;> rfl
 obtain ⟨R1, G1⟩ := R.setL (st' := rsOf jump) (r' := { r with state := if (jump.map RJ.code).isNone then .ready else .done, pending := jump.map RJ.code }) hk hμ g2 (by cases jump <;> simp [RS.ok, rsOf]) rfl rfl rfl rfl
 refine ⟨_, _, run_endRound (jump.map RJ.code) g2, ?_⟩
 obtain ⟨v', H2, hi, hK⟩ := hr.ex
 have F1 : RelF 1 M μ [(0, .bool jump.isNone)] #[.bool (jump.map RJ.code).isNone] := ⟨R.glob, rfl, fun t => by
  simp only [look]
  by_cases ht : 0 = t
  · subst ht; simp [relV, hne]
  · rw [beq_false ht]; simp only [cond_false, relV]⟩
 obtain ⟨M2, μ2, R2, F2, hn2, G2⟩ := hi 1 M μ _ _ R1 F1 hn
 refine ⟨_, M2, μ2, H2, v', rfl, R2, ?_, ?_, hK⟩
 · have := F2.slot 0; simpa [look] using this
 · have G := (G.trans (G1.grow.mono hn)).trans G2
   refine ⟨fun q x hx => ?_, by rw [hn0]; exact G, by rw [hn0]; exact hn2⟩
   rw [G.pin q (by rw [← hn0]; exact R0.pos_lt hx)]; exact hx
theorem YieldA.of {k id : Nat} {fr : Fr} {H : Heap} {K : AV → Heap → Prop} {args : List AV} {ps : List Nat} {A B : AC} (hk : H.get k = .loop .ready id fr) (hat : RfAt P id ps A B) (hl : args.length = ps.length) (hr : A.run P H.nx (assignK P H.nx k B K) (putL fr ps args) H) : YieldA P k args H K := by
 refine ⟨fun M μ w vs R hv b s hμ => ?_⟩
 obtain ⟨b', s', g1, r, g2, g3, g4, g5⟩ := R.loops _ _ _ _ hk
 rw [hμ] at g1; cases g1
 obtain ⟨rfl, hall, hA, hB, hnA, hnB⟩ := (hat.iff _ _ _ _).1 g4
 have hsz : vs.size = r.params.size := by
  have := relL_length hv
  simp only [Array.length_toList] at this
  simpa using this.trans hl
 refine ⟨r.fn, _, r.assign, r.body, run_yield g2 hsz, roundIn_of_wpIn trivial ?_⟩
 have hfold : (r.params.zip vs).foldl (fun tmps x => tmps.setIfInBounds x.1 x.2) r.tmps = (r.params.toList.zip vs.toList).foldl (fun tmps x => tmps.setIfInBounds x.1 x.2) r.tmps := by
  rw [← Array.foldl_toList, Array.toList_zip]
 letI : Pend := { D := [] }
 have S : St r.tmps.size H.nx M μ H w (putL fr r.params.toList args) H { tmps := (r.params.zip vs).foldl (fun tmps x => tmps.setIfInBounds x.1 x.2) r.tmps, defers := [] } w :=
  ⟨M, μ, R, by rw [hfold]; exact relF_putL ⟨R.glob, rfl, g5⟩ hall hv hl, Nat.le_refl _, Grow.refl _ _ _ _ _, Marks.nil⟩
 refine wpIn_mono (sound_C (some b) hA (.inr hnA) S hr) ?_
 intro e a1 w1 hx
 obtain ⟨x, fr1, H1, hx, S1, hq⟩ := hx.resolve_right (fun ⟨c, v, fr', H', _, _, _, hq⟩ => hq)
 cases e <;> simp [xa] at hx <;> subst hx
 case normal =>
  simp only [assignK, setK_eq] at hq
  split at hq
  · rename_i id2 fr2 hk1
    obtain ⟨M1, μ1, R1, F1, hn1, G1, hd1⟩ := S1
    have hμ1 : μ1 k = some (b, s) := by rw [G1.pin k (R.pos_lt hμ)]; exact hμ
    obtain ⟨b', s', q1, r1, q2, q3, q4, q5⟩ := R1.loops _ _ _ _ hk1
    rw [hμ1] at q1; cases q1
    obtain ⟨R2, G2⟩ := R1.setL (st' := .busy) (r' := { r1 with state := .busy }) hk1 hμ1 q2 rfl rfl rfl rfl rfl
    refine ⟨_, run_beginRound q2 q3.1, ?_⟩
    have S2 : St r.tmps.size H.nx M μ H w fr1 (H1.set k (.loop .busy id2 fr2)) a1 (w1.putObj b (.loop { r1 with state := .busy })) :=
     ⟨M1, μ1, R2, F1, hn1, G1.trans (G2.grow.mono hn1), hd1.step G2.grow⟩
    refine wpIn_mono (sound_C (some b) hB (.inr hnB) S2 hq) ?_
    intro e a3 w3 hx
    obtain ⟨x, fr3, H3, hx, S3, hq3⟩ := hx.resolve_right (fun ⟨c, v, fr', H', _, _, _, hq⟩ => by unfold roundK at hq; split at hq <;> exact hq)
    unfold roundK at hq3
    simp only [setK_eq] at hq3
    split at hq3
    · rename_i id3 fr4 hk3
      cases e <;> simp [xa] at hx <;> subst hx
      case normal => exact end_round S3 R rfl hμ hk3 none hq3
      case exit i => exact end_round S3 R rfl hμ hk3 (some (.exit i)) hq3
      case ret => exact end_round S3 R rfl hμ hk3 (some .ret) hq3
    · exact hq3.elim
  · exact hq.elim
 all_goals exact hq.elim
end
end Go.Eng

namespace Go.Eng
open Go
variable [Globs]

abbrev CallE := FuncId → List AV → EH → Option (AV × EH)
structure CallOK (P : Program) (call : CallE) : Prop where
 ok : ∀ f vs T r T', call f vs T = some (r, T') → ∀ H, RepH T H → ∃ H', RepH T' H' ∧ ∀ K : AV → Heap → Prop, K r H' → CallA P f vs H K
inductive EO where
 | val (v : AV)
 | pan (c : AV)
abbrev CallXE := FuncId → List AV → EH → Option (EO × EH)
def EO.is (K Kp : AV → Heap → Prop) (H : Heap) : EO → Prop
 | .val v => K v H
 | .pan c => Kp c H
structure CallXOK (P : Program) (cx : CallXE) : Prop where
 ok : ∀ f vs T o T', cx f vs T = some (o, T') → ∀ H, RepH T H → ∃ H', RepH T' H' ∧ ∀ K Kp : AV → Heap → Prop, o.is K Kp H' → CallX P f vs H K Kp
def CallXE.call (cx : CallXE) : CallE := fun f vs T => match cx f vs T with
 | some (.val v, T') => some (v, T')
 | _ => none
theorem CallXOK.toA {P : Program} {cx : CallXE} (h : CallXOK P cx) : CallOK P cx.call := ⟨fun f vs T r T' hr H R => by
 unfold CallXE.call at hr
 split at hr
 · rename_i v T1 h1; cases hr
   obtain ⟨H', R', hK⟩ := h.ok _ _ _ _ _ h1 H R
   exact ⟨H', R', fun K hk => CallX.toA (hK K _ hk)⟩
 · cases hr⟩
abbrev YieldE := Nat → List AV → EH → Option (AV × EH)
structure YieldOK (P : Program) (yl : YieldE) : Prop where
 ok : ∀ k vs T r T', yl k vs T = some (r, T') → ∀ H, RepH T H → ∃ H', RepH T' H' ∧ ∀ K : AV → Heap → Prop, K r H' → YieldA P k vs H K
def callD (call : CallE) (f : FuncId) (vs : List AV) : Option AV := match call f vs EH.nil with
 | some (r, T) => match pubE T.get 8 r with
  | some r' => bif noLocL vs && noLoc r' then some r' else none
  | none => none
 | none => none
theorem callD_run {P : Program} {call : CallE} (hc : CallOK P call) {f : FuncId} {vs : List AV} {r : AV} (h : callD call f vs = some r) {K : AV → Prop} (hk : K r) : QCallA P f vs K := by
 unfold callD at h
 split at h
 · rename_i r' T' hcall
   split at h
   · rename_i r2 hp
     cases hb : (noLocL vs && noLoc r2) <;> simp only [hb, cond_true, cond_false] at h
     · cases h
     · cases h
       simp only [Bool.and_eq_true] at hb
       obtain ⟨H', R', hK⟩ := hc.ok _ _ _ _ _ hcall _ RepH.nil
       refine QCallA.of (CallA.out 8 (hK (fun v H => v = r' ∧ H = H') ⟨rfl, rfl⟩) ?_) hb.1 hb.2 hk
       rintro v H ⟨rfl, rfl⟩
       exact ⟨_, by rw [R'.get]; exact hp, rfl, rfl⟩
   · cases h
 · cases h
def callB (call : CallE) (f : FuncId) (vs : List AV) : Option (Nat × Option Nat × Nat × List AV) := match call f vs EH.nil with
 | some (.slice k off n cp e, T) => match T.get k with
  | .cells cs => bif Nat.beq off 0 && noLocL vs && noLocL cs then some (n, cp, e, cs) else none
  | _ => none
 | _ => none
theorem callB_run {P : Program} {call : CallE} (hc : CallOK P call) {f : FuncId} {vs : List AV} {n : Nat} {cp : Option Nat} {e : Nat} {cs : List AV} (h : callB call f vs = some (n, cp, e, cs)) {K : Nat → Option Nat → Nat → List AV → Prop} (hk : K n cp e cs) : OCallA P f vs K := by
 unfold callB at h
 split at h
 · rename_i k off n' cp' e' T hcall
   split at h
   · rename_i cs' hg
     cases hb : (Nat.beq off 0 && noLocL vs && noLocL cs') <;> simp only [hb, cond_true, cond_false] at h
     · cases h
     · cases h
       simp only [Bool.and_eq_true] at hb
       obtain ⟨⟨h0, h1⟩, h2⟩ := hb
       have h0 := Nat.eq_of_beq_eq_true h0
       subst h0
       obtain ⟨H', R', hK⟩ := hc.ok _ _ _ _ _ hcall _ RepH.nil
       exact ⟨k, n, cp, e, cs, h1, h2, hK _ ⟨rfl, by rw [R'.get]; exact hg⟩, hk⟩
   · cases h
 · cases h
def callQ (call : CallE) (η : Nat → AB) (f : FuncId) (vs : List AV) : Option AV := match atL vs with
 | [] => callD call f vs
 | k :: ks => match callD call f (frz η (k :: ks) vs) with
  | some r => bif flatV r then some r else none
  | none => none
theorem callQ_run {P : Program} {call : CallE} (hc : CallOK P call) {η : Nat → AB} {f : FuncId} {vs : List AV} {r : AV} (h : callQ call η f vs = some r) {K : AV → Prop} (hk : K r) : qcallK P η f vs K := by
 unfold callQ at h; unfold qcallK
 cases he : atL vs with
 | nil => rw [he] at h; exact callD_run hc h hk
 | cons k ks =>
  rw [he] at h
  simp only [fvs_eq] at h ⊢
  split at h
  · rename_i r' hr
    cases hf : flatV r' <;> simp only [hf, cond_true, cond_false, reduceCtorEq] at h
    cases h
    exact callD_run hc hr (by rw [hf]; exact hk)
  · cases h
section
variable (call : CallE)
variable (cx : CallXE)
variable (yl : YieldE)
def AOp.e (F : BT AV) (T : EH) : AOp → Option (AV × EH)
 | .m o => o.e (AX.eF F) T
 | .p o => match o.e (AX.eF F) with
  | some u => some (u, T)
  | none => none
 | .v o => match o.e (AX.eF F) with
  | some u => some (u, T)
  | none => none
 | .h o => o.e (AX.eF F) T
 | .d o => match o.e (AX.eF F) T.get with
  | some u => some (u, T)
  | none => none
 | .l o => match o.e (AX.eF F) T.get T.nx with
  | some (u, ab, kl) => forceN (T.nx + 1) fun n => match kl with
   | none => match EH.put ⟨n, T.bs⟩ T.nx ab with
    | some T' => some (u, T')
    | none => none
   | some k => match EH.put ⟨n, T.bs⟩ k .dead with
    | some T1 => match T1.put T.nx ab with
     | some T' => some (u, T')
     | none => none
    | none => none
  | none => none
 | .call f args => call f (mapE (AX.eF F) args) T
 | .callo f args => call f (mapE (AX.eF F) args) T
 | .callv x args => match x.eF F with
  | .func f caps => call f (mapE (AX.eF F) args ++ caps) T
  | .meth f bs => call f (bs ++ mapE (AX.eF F) args) T
  | .yld k => yl k (mapE (AX.eF F) args) T
  | _ => none
 | .nq neg x => match x.eF F with
  | .nils => some (.bool (!neg), T)
  | .slice _ _ _ _ _ => some (.bool neg, T)
  | .dslice _ n _ => match n with
   | 0 => none
   | _ + 1 => some (.bool neg, T)
  | _ => none
 | .callx _ _ => none
 | .callvx _ _ => none
 | .calli tbl x args => match x.eF F with
  | .ifc t c => match tfind tbl t with
   | some f => call f (c :: mapE (AX.eF F) args) T
   | none => none
  | _ => none
 | .pan _ => none
def AOp.ex (F : BT AV) (T : EH) (o : AOp) : Option (EO × EH) := match o with
 | .callx f args => cx f (mapE (AX.eF F) args) T
 | .callvx x args => match x.eF F with
  | .func f caps => cx f (mapE (AX.eF F) args ++ caps) T
  | .meth f bs => cx f (bs ++ mapE (AX.eF F) args) T
  | _ => none
 | .pan x => match x.eF F with
  | .ifc t c => bif flatV c then some (.pan (.ifc t c), T) else none
  | _ => none
 | o => match o.e call yl F T with
  | some (u, T') => some (.val u, T')
  | none => none
def AO.e (o : AO) (F : BT AV) (T : EH) : Option (XA × BT AV × EH) := match o.guard with
 | none => match o.op.ex call cx yl F T with
  | some (.val v, T') => match putE F o.dst v with
   | some F' => some (.normal, F', T')
   | none => none
  | some (.pan c, T') => some (.pan c, F, T')
  | none => none
 | some (s, want) => match AX.eF F (.t s) with
  | .bool b => bif b == want then (match o.op.ex call cx yl F T with
   | some (.val v, T') => match putE F o.dst v with
    | some F' => some (.normal, F', T')
    | none => none
   | some (.pan c, T') => some (.pan c, F, T')
   | none => none) else (match putE F o.dst (.tuple []) with
   | some F' => some (.normal, F', T)
   | none => none)
  | .tuple [] => match putE F o.dst (.tuple []) with
   | some F' => some (.normal, F', T)
   | none => none
  | _ => none
def opsE : List AO → BT AV → EH → Option (XA × BT AV × EH)
 | [], F, T => some (.normal, F, T)
 | o :: r, F, T => match o.e call cx yl F T with
  | some (.normal, F', T') => opsE r F' T'
  | r => r
def HOp.qe (ev : AX → AV) (η : Nat → AB) (p : Nat) : HOp → Option (AV × Ef)
 | .load agg n x => match ev x with
  | .dptr cs => match loadE agg n cs with
   | some v => some (v, [])
   | none => none
  | .ptr k off => match η k with
   | .cells cs => match loadE agg n (cs.drop off) with
    | some v => some (v, [])
    | none => none
   | _ => none
  | _ => none
 | .alloc zero => some (.ptr p 0, [(p, .cells zero)])
 | .box x => match cellsOf (ev x) with
  | some cs => some (.ptr p 0, [(p, .cells cs)])
  | none => none
 | .store n q x => match ev q with
  | .ptr k off => match η k with
   | .cells cs => match cellsOf (ev x) with
    | some vs => bif Nat.beq vs.length n then (match lputE cs off vs with
     | some cs' => some (.any, [(k, .cells cs')])
     | none => none) else none
    | none => none
   | _ => none
  | _ => none
def MOp.qe (ev : AX → AV) (η : Nat → AB) : MOp → Option (AV × Ef)
 | .mk => none
 | .get ok kk zero m k => match mapE0 η (ev m) with
  | some (_, es) => bif keyOk kk (ev k) then (match mfind kk (ev k) es with
   | some r => some (mval ok zero r, [])
   | none => none) else none
  | none => none
 | .set kk m k v => match mapE0 η (ev m) with
  | some (some p, es) => bif keyOk kk (ev k) then (match mput kk (ev k) (ev v) es with
   | some es' => some (.any, [(p, .map es')])
   | none => none) else none
  | _ => none
 | .del kk m k => match mapE0 η (ev m) with
  | some (some p, es) => bif keyOk kk (ev k) then (match mdel kk (ev k) es with
   | some es' => some (.tuple [], [(p, .map es')])
   | none => none) else none
  | _ => none
 | .range _ => none
 | .next _ => none
 | .entry _ => none
 | .delw _ _ _ _ => none
 | .copyS _ _ => none
 | .copy e d s => match ev d with
  | .slice k off n _ e' => match η k with
   | .cells cs => match srcE η e (ev s) with
    | some (ds, m) => if e' = e then (bif Nat.ble m n then (match lputE cs off ds with
     | some cs' => some (.int .i64 m, [(k, .cells cs')])
     | none => none) else (match lputE cs off (ds.take (n * e)) with
     | some cs' => some (.int .i64 n, [(k, .cells cs')])
     | none => none)) else none
    | none => none
   | _ => none
  | _ => none
 | .len m => match mapE0 η (ev m) with
  | some (_, es) => some (.int .i64 es.length, [])
  | none => none
def AOp.qe (ev : AX → AV) (η : Nat → AB) (p : Nat) : AOp → Option (AV × Ef)
 | .m o => o.qe ev η
 | .p o => match o.e ev with
  | some u => some (u, [])
  | none => none
 | .v o => match o.e ev with
  | some u => some (u, [])
  | none => none
 | .h o => o.qe ev η p
 | .d o => match o.e ev η with
  | some u => some (u, [])
  | none => none
 | .l o => match o.e ev η p with
  | some (u, cs, kl) => some (u, efL p cs kl)
  | none => none
 | .call f args => match callQ call η f (mapE ev args) with
  | some r => some (r, [])
  | none => none
 | .callo f args => match callB call f (mapE ev args) with
  | some (n, cp, e, cs) => some (.slice p 0 n cp e, [(p, .cells cs)])
  | none => none
 | .callv x args => match ev x with
  | .func f caps => match callQ call η f (mapE ev args ++ caps) with
   | some r => some (r, [])
   | none => none
  | .meth f bs => match callQ call η f (bs ++ mapE ev args) with
   | some r => some (r, [])
   | none => none
  | _ => none
 | .nq _ _ => none
 | .callx _ _ => none
 | .callvx _ _ => none
 | .calli _ _ _ => none
 | .pan _ => none
def layE (T : EH) : Ef → Option EH
 | [] => some T
 | (k, x) :: r => match T.put k x with
  | some T' => layE T' r
  | none => none
def logE (dep : List (Nat × Nat)) (i : Nat) (F W : List Nat) (L : List En) : Option (List En) := match F, W with
 | [], [] => some L
 | F, W => bif okLog dep ⟨i, F, W⟩ L then some (⟨i, F, W⟩ :: L) else none
def qwalkE (dep : List (Nat × Nat)) : List AO → Nat → Nat → List En → BT AV → EH → Option (BT AV × EH)
 | [], _, _, _, F, T => some (F, T)
 | q :: r, i, p, L, F, T => match (match q.guard with
  | none => some true
  | some (s, want) => match AX.eF F (.t s) with
   | .bool b => some (b == want)
   | .tuple [] => some false
   | _ => none) with
  | some true => match q.op.qe call (AX.eF F) T.get p with
   | some (v, b) => match logE dep i (q.op.foot (AX.eF F)) (keys b) L with
    | some L' => match putE F q.dst v with
     | some F' => match layE T b with
      | some T' => forceN (i + 1) fun i' => forceN (p + 1) fun p' => qwalkE dep r i' p' L' F' T'
      | none => none
     | none => none
    | none => none
   | none => none
  | some false => match putE F q.dst (.tuple []) with
   | some F' => forceN (i + 1) fun i' => forceN (p + 1) fun p' => qwalkE dep r i' p' L F' T
   | none => none
  | none => none
def loopE (step : BT AV → EH → Option (XA × BT AV × EH)) : Nat → BT AV → EH → Option (XA × BT AV × EH)
 | 0, _, _ => none
 | k + 1, F, T => match step F T with
  | some (.normal, F', T') => loopE step k F' T'
  | r => r
def selO {β : Type} (F : BT AV) : List Nat → (Fr → Option β) → Option β
 | [], K => K []
 | t :: r, K => match F.get t with
  | some v => selO F r fun l => K ((t, v) :: l)
  | none => selO F r fun l => K ((t, .any) :: l)
def rangeO (k : Nat) (F : BT AV) (T : EH) : Option (XA × BT AV × EH) := match T.get k with
 | .loop .ready _ _ => match T.put k .dead with
  | some T' => some (.normal, F, T')
  | none => none
 | .loop (.done .ret) _ _ => match T.put k .dead with
  | some T' => some (.ret, F, T')
  | none => none
 | .loop (.done (.exit i)) _ _ => match T.put k .dead with
  | some T' => some (.exit i, F, T')
  | none => none
 | _ => none
def AOp.rdE (ev : AX → AV) (η : Nat → AB) : AOp → Option AV
 | .p o => o.e ev
 | .v o => o.e ev
 | .h (.load agg n x) => match ev x with
  | .dptr cs => loadE agg n cs
  | .ptr k off => match η k with
   | .cells cs => loadE agg n (cs.drop off)
   | _ => none
  | _ => none
 | .m (.get ok kk zero mm k) => match mapE0 η (ev mm) with
  | some (_, es) => bif keyOk kk (ev k) then (match mfind kk (ev k) es with
   | some r => some (mval ok zero r)
   | none => none) else none
  | none => none
 | _ => none
def rdE (T : EH) : List AO → BT AV → Option (BT AV)
 | [], F => some F
 | q :: r, F => match q.op.rdE (AX.eF F) T.get with
  | some v => match putE F q.dst v with
   | some F' => rdE T r F'
   | none => none
  | none => none
def avEq1 : AV → AV → Bool
 | .int j a, .int k b => decide (j = k) && decide (a = b)
 | .bool a, .bool b => a == b
 | .ptr k o, .ptr k' o' => Nat.beq k k' && Nat.beq o o'
 | .nilp, .nilp => true
 | .nils, .nils => true
 | .slice k o l c e, .slice k' o' l' c' e' => Nat.beq k k' && Nat.beq o o' && Nat.beq l l' && decide (c = c') && Nat.beq e e'
 | .map k, .map k' => Nat.beq k k'
 | .nili, .nili => true
 | _, _ => false
def avEqL : List AV → List AV → Bool
 | [], [] => true
 | c :: cs, d :: ds => avEq1 c d && avEqL cs ds
 | _, _ => false
def avEq : AV → AV → Bool
 | .agg cs, .agg ds => avEqL cs ds
 | .tuple cs, .tuple ds => avEqL cs ds
 | c, d => avEq1 c d
theorem avEq1_spec {c d : AV} (h : avEq1 c d = true) : c = d := by
 unfold avEq1 at h
 split at h <;> simp only [Bool.and_eq_true, decide_eq_true_eq, Nat.beq_eq, beq_iff_eq, reduceCtorEq] at h
 · rw [h.1, h.2]
 · rw [h]
 · rw [h.1, h.2]
 · rfl
 · rfl
 · obtain ⟨⟨⟨⟨rfl, rfl⟩, rfl⟩, rfl⟩, rfl⟩ := h; rfl
 · rw [h]
 · rfl
theorem avEqL_spec : ∀ {cs ds : List AV}, avEqL cs ds = true → cs = ds
 | [], [], _ => rfl
 | c :: cs, d :: ds, h => by
  simp only [avEqL, Bool.and_eq_true] at h
  rw [avEq1_spec h.1, avEqL_spec h.2]
 | [], _ :: _, h => by simp [avEqL] at h
 | _ :: _, [], h => by simp [avEqL] at h
theorem avEq_spec {c d : AV} (h : avEq c d = true) : c = d := by
 unfold avEq at h
 split at h
 · rw [avEqL_spec h]
 · rw [avEqL_spec h]
 · exact avEq1_spec h
def sameE : List AO → BT AV → BT AV → Bool
 | [], _, _ => true
 | q :: r, F, G => (match q.dst with
  | some d => avEq (AX.eF F (.t d)) (AX.eF G (.t d))
  | none => true) && sameE r F G
def forgetE : List AO → BT AV → Option (BT AV)
 | [], F => some F
 | q :: r, F => match forgetE r F with
  | some F' => match q.dst with
   | some d => putE F' (some d) .any
   | none => some F'
  | none => none
def actE (ci : Nat) (tags : List Nat) (qs : List AO) (F : BT AV) (T : EH) : Option (XA × BT AV × EH) := match qs[ci]? with
 | some c => match rdE T (selT isPF tags qs) F with
  | some F0 => match c.op.ex call cx yl F0 T with
   | some (.val v, T1) => match putE F0 c.dst v with
    | some F1 => match rdE T1 (selT isFP tags qs) F1 with
     | some F2 => bif sameE (selT isF tags qs) F0 F2 then some (.normal, F2, T1) else none
     | none => none
    | none => none
   | some (.pan e, T1) => match forgetE qs F with
    | some F' => some (.pan e, F', T1)
    | none => none
   | none => none
  | none => none
 | none => none
def AC.e (lf : Nat) : AC → BT AV → EH → Option (XA × BT AV × EH)
 | .skip, F, T => some (.normal, F, T)
 | .ret, F, T => some (.ret, F, T)
 | .exit id, F, T => some (.exit id, F, T)
 | .reg ops, F, T => opsE call cx yl ops F T
 | .draw m dep ops, F, T => forceN (T.nx + m) fun n => match qwalkE call dep (ops.take m) 0 T.nx [] F ⟨n, T.bs⟩ with
  | some (F', T') => opsE call cx yl (ops.drop m) F' T'
  | none => none
 | .seq a b, F, T => match a.e lf F T with
  | some (.normal, F', T') => b.e lf F' T'
  | r => r
 | .cond c a b, F, T => match c.eF F with
  | .bool t => match t with
   | true => a.e lf F T
   | false => b.e lf F T
  | _ => none
 | .block id a, F, T => match a.e lf F T with
  | some (.exit j, F', T') => bif Nat.beq j id then some (.normal, F', T') else some (.exit j, F', T')
  | r => r
 | .loop a, F, T => loopE (fun F T => a.e lf F T) lf F T
 | .ghost a, F, T => a.e lf F T
 | .scope a, F, T => a.e lf F T
 | .act ci tags qs, F, T => actE call cx yl ci tags qs F T
 | .rangeF id g sl _ _ _, F, T => match g.eF F with
  | .func f caps => selO F sl fun fr0 => match T.push (.loop .ready id fr0) with
   | some T1 => match call f (.yld T.nx :: caps) T1 with
    | some (_, T2) => rangeO T.nx F T2
    | none => none
   | none => none
  | _ => none
def resE (F : BT AV) (T : EH) : List AR → Option (List AV)
 | [] => some []
 | .tmp t :: r => match resE F T r with
  | some vs => some (AX.eF F (.t t) :: vs)
  | none => none
 | .cell t agg n :: r => match AX.eF F (.t t) with
  | .ptr k off => match T.get k with
   | .cells cs => match loadE agg n (cs.drop off) with
    | some v => match resE F T r with
     | some vs => some (v :: vs)
     | none => none
    | none => none
   | _ => none
  | _ => none
def frameE : Nat → List AV → Option (BT AV)
 | _, [] => some .nil
 | i, v :: r => match frameE (i + 1) r with
  | some F => putE F (some i) v
  | none => none
end
structure DE where
 qs : List AO
 x : Nat
 B : AC
 g : FuncId
 N : Nat
 t : Nat
 ac : AC
section
variable (call : CallE) (cx : CallXE) (yl : YieldE)
def DE.fin (d : DE) (lf : Nat) (rs : List AR) (caps : List AV) (r : AV) (F : BT AV) (T : EH) : Option (EO × EH) := match frameE 0 caps with
 | some G => match putE G (some d.t) r with
  | some G' => match d.ac.e call cx yl lf G' T with
   | some (.normal, _, T') => match resE F T' rs with
    | some l => some (.val (one l), T')
    | none => none
   | some (.ret, _, T') => match resE F T' rs with
    | some l => some (.val (one l), T')
    | none => none
   | _ => none
  | none => none
 | none => none
def DE.e (d : DE) (lf : Nat) (rs : List AR) (A : AC) (vs : List AV) (T : EH) : Option (EO × EH) := match frameE 0 vs with
 | some F => match A.e call cx yl lf F T with
  | some (.normal, F1, T1) => match opsE call cx yl d.qs F1 T1 with
   | some (.normal, F2, T2) => match AX.eF F2 (.t d.x) with
    | .func g caps => bif Nat.beq g d.g && Nat.ble caps.length d.N then (match d.B.e call cx yl lf F2 T2 with
     | some (.normal, F3, T3) => d.fin call cx yl lf rs caps .nili F3 T3
     | some (.ret, F3, T3) => d.fin call cx yl lf rs caps .nili F3 T3
     | some (.pan c, F3, T3) => d.fin call cx yl lf rs caps c F3 T3
     | _ => none) else none
    | _ => none
   | some (.pan c, _, T2) => some (.pan c, T2)
   | _ => none
  | some (.pan c, _, T1) => some (.pan c, T1)
  | some (.ret, F1, T1) => match resE F1 T1 rs with
   | some l => some (.val (one l), T1)
   | none => none
  | _ => none
 | none => none
end
structure FE where
 f : FuncId
 N : Nat
 ac : AC
 rs : List AR
 d : Option DE := none
 pub : Bool := false
def FE.ok (P : Program) (e : FE) : Prop := match e.d with
 | none => okF P e.f e.N e.ac e.rs = true
 | some d => okFX P e.f e.N e.ac d.qs d.x d.B e.rs = true ∧ okFD P d.g d.N d.t d.ac = true
def FE.noRF (e : FE) : Bool := e.ac.noRF && (match e.d with
 | none => true
 | some d => d.B.noRF)
section
variable (call : CallE) (cx : CallXE) (yl : YieldE)
def bodyE (lf : Nat) (e : FE) (vs : List AV) (T : EH) : Option (EO × EH) := bif Nat.ble vs.length e.N then (match e.d with
 | some d => d.e call cx yl lf e.rs e.ac vs T
 | none => match frameE 0 vs with
  | some F => match e.ac.e call cx yl lf F T with
   | some (.exit _, _, _) => none
   | some (.pan c, _, T') => some (.pan c, T')
   | some (_, F', T') => match resE F' T' e.rs with
    | some rs => some (.val (one rs), T')
    | none => none
   | none => none
  | none => none) else none
end
def pubR (p : Bool) (T : EH) (r : Option (EO × EH)) : Option (EO × EH) := bif p then (match r with
 | some (.val v, T') => match pubE T'.get 8 v with
  | some d => bif noLoc d then some (.val d, T) else none
  | none => none
 | _ => none) else r
def findE : List FE → FuncId → Option FE
 | [], _ => none
 | e :: r, f => bif Nat.beq e.f f then some e else findE r f
structure RE where
 id : Nat
 ps : List Nat
 A : AC
 B : AC
def findR : List RE → Nat → Option RE
 | [], _ => none
 | e :: r, f => bif Nat.beq e.id f then some e else findR r f
def frBT : Fr → Option (BT AV)
 | [] => some .nil
 | (t, v) :: r => match frBT r with
  | some F => putE F (some t) v
  | none => none
def putLE (F : BT AV) : List Nat → List AV → Option (BT AV)
 | t :: ps, v :: vs => match putE F (some t) v with
  | some F' => putLE F' ps vs
  | none => none
 | [], [] => some F
 | _, _ => none
def endO (k : Nat) (x : XA) (T : EH) : Option (AV × EH) := match T.get k with
 | .loop .busy id fr2 => match x with
  | .normal => match T.put k (.loop .ready id fr2) with
   | some T' => some (.bool true, T')
   | none => none
  | .ret => match T.put k (.loop (.done .ret) id fr2) with
   | some T' => some (.bool false, T')
   | none => none
  | .exit i => match T.put k (.loop (.done (.exit i)) id fr2) with
   | some T' => some (.bool false, T')
   | none => none
  | .pan _ => none
 | _ => none
def runB (ov : CallE) (tbl : List FE) (rt : List RE) (lf : Nat) : Nat → Nat ⊕ Nat → List AV → EH → Option (EO × EH)
 | 0, _, _, _ => none
 | n + 1, .inl f, vs, T => match findE tbl f with
  | none => match ov f vs T with
   | some (v, T') => some (.val v, T')
   | none => none
  | some e => pubR (e.pub && noLocL vs) T (bodyE (CallXE.call fun f => runB ov tbl rt lf n (.inl f)) (fun f => runB ov tbl rt lf n (.inl f)) (CallXE.call fun k => runB ov tbl rt lf n (.inr k)) lf e vs (bif e.pub && noLocL vs then EH.nil else T))
 | n + 1, .inr k, vs, T => match T.get k with
  | .loop .ready id fr => match findR rt id with
   | some e => match frBT fr with
    | some F0 => match putLE F0 e.ps vs with
     | some F1 => match e.A.e (CallXE.call fun f => runB ov tbl rt lf n (.inl f)) (fun f => runB ov tbl rt lf n (.inl f)) (CallXE.call fun k => runB ov tbl rt lf n (.inr k)) lf F1 T with
      | some (.normal, F2, T2) => match T2.get k with
       | .loop .ready id2 fr2 => match T2.put k (.loop .busy id2 fr2) with
        | some T3 => match e.B.e (CallXE.call fun f => runB ov tbl rt lf n (.inl f)) (fun f => runB ov tbl rt lf n (.inl f)) (CallXE.call fun k => runB ov tbl rt lf n (.inr k)) lf F2 T3 with
         | some (x, _, T4) => match endO k x T4 with
          | some (v, T5) => some (.val v, T5)
          | none => none
         | none => none
        | none => none
       | _ => none
      | _ => none
     | none => none
    | none => none
   | none => none
  | _ => none
def runO (ov : CallE) (tbl : List FE) (rt : List RE) (lf n : Nat) : CallE := CallXE.call fun f => runB ov tbl rt lf n (.inl f)
def runE (tbl : List FE) (lf n : Nat) : CallE := runO (fun _ _ _ => none) tbl [] lf n

section
variable {P : Program} {call : CallE} {cx : CallXE} {yl : YieldE}
theorem AOp.e_run (hc : CallOK P call) (hy : YieldOK P yl) {F : BT AV} {fr : Fr} {T T' : EH} {H : Heap} {o : AOp} {v : AV} (h : o.e call yl F T = some (v, T')) (RF : RepF F fr) (R : RepH T H) : ∃ H', RepH T' H' ∧ ∀ K Kp : AV → Heap → Prop, K v H' → o.run P fr H K Kp := by
 cases o <;> simp only [AOp.e, AOp.run, newK0_eq, RF.ev, fvs_eq, mapE_eq] at h ⊢
 case m o => obtain ⟨H', R', hK⟩ := MOp.e_run h R; exact ⟨H', R', fun K _ hk => hK K hk⟩
 case p o =>
  split at h
  · rename_i u hu; cases h; exact ⟨H, R, fun K Kp hk => o.e_run hu hk⟩
  · cases h
 case v o =>
  split at h
  · rename_i u hu; cases h; exact ⟨H, R, fun K Kp hk => o.e_run hu hk⟩
  · cases h
 case h o => obtain ⟨H', R', hK⟩ := HOp.e_run h R; exact ⟨H', R', fun K _ hk => hK K hk⟩
 case d o =>
  split at h
  · rename_i u hu; cases h; exact ⟨H, R, fun K Kp hk => by rw [R.get]; exact o.e_run hu hk⟩
  · cases h
 case l o =>
  split at h
  · rename_i u ab kl hu
    rw [forceN_eq] at h
    have R1 : RepH ⟨T.nx + 1, T.bs⟩ ⟨H.nx + 1, H.bs⟩ := ⟨by simp [R.nx], R.get, R.noit⟩
    split at h
    · split at h
      · rename_i T2 hp; cases h
        refine ⟨_, R1.put hp, fun K Kp hk => ?_⟩
        rw [R.get, R.nx]
        refine LOp.e_run hu ?_
        rw [← R.nx] at hk ⊢; exact hk
      · cases h
    · split at h
      · rename_i T1 h1
        split at h
        · rename_i T2 h2; cases h
          refine ⟨_, (R1.put h1).put h2, fun K Kp hk => ?_⟩
          rw [R.get, R.nx]
          refine LOp.e_run hu ?_
          rw [← R.nx] at hk ⊢; exact hk
        · cases h
      · cases h
  · cases h
 case call f args =>
  obtain ⟨H', R', hK⟩ := hc.ok _ _ _ _ _ h H R
  exact ⟨H', R', fun K _ hk => hK K hk⟩
 case callo f args =>
  obtain ⟨H', R', hK⟩ := hc.ok _ _ _ _ _ h H R
  exact ⟨H', R', fun K _ hk => hK K hk⟩
 case callv x args =>
  rw [← RF.ev] at h
  rw [← RF.ev]
  generalize AX.ev fr x = vx at h ⊢
  split at h
  · obtain ⟨H', R', hK⟩ := hc.ok _ _ _ _ _ h H R
    exact ⟨H', R', fun K _ hk => hK K hk⟩
  · obtain ⟨H', R', hK⟩ := hc.ok _ _ _ _ _ h H R
    exact ⟨H', R', fun K _ hk => hK K hk⟩
  · obtain ⟨H', R', hK⟩ := hy.ok _ _ _ _ _ h H R
    exact ⟨H', R', fun K _ hk => hK K hk⟩
  · cases h
 case nq neg x =>
  generalize AX.eF F x = vx at h ⊢
  cases vx <;> simp only [Option.some.injEq, Prod.mk.injEq, reduceCtorEq] at h ⊢
  case nils => obtain ⟨rfl, rfl⟩ := h; exact ⟨H, R, fun K Kp hk => hk⟩
  case slice => obtain ⟨rfl, rfl⟩ := h; exact ⟨H, R, fun K Kp hk => hk⟩
  case dslice cs n cap =>
   cases n with
   | zero => cases h
   | succ n => cases h; exact ⟨H, R, fun K Kp hk => Unk.pos (Nat.succ_pos n) hk⟩
 case calli tbl x args =>
  rw [← RF.ev] at h
  rw [← RF.ev]
  generalize AX.ev fr x = vx at h ⊢
  split at h
  · split at h
    · rename_i f hf
      obtain ⟨H', R', hK⟩ := hc.ok _ _ _ _ _ h H R
      refine ⟨H', R', fun K _ hk => ?_⟩
      simp only [hf]; exact hK K hk
    · cases h
  · cases h
 all_goals cases h
theorem AOp.ex_run (hc : CallOK P call) (hx : CallXOK P cx) (hy : YieldOK P yl) {F : BT AV} {fr : Fr} {T T' : EH} {H : Heap} {o : AOp} {v : EO} (h : o.ex call cx yl F T = some (v, T')) (RF : RepF F fr) (R : RepH T H) : ∃ H', RepH T' H' ∧ ∀ K Kp : AV → Heap → Prop, v.is K Kp H' → o.run P fr H K Kp := by
 have nrm : (match o.e call yl F T with | some (v, T') => some (EO.val v, T') | none => none) = some (v, T') → ∃ H', RepH T' H' ∧ ∀ K Kp : AV → Heap → Prop, v.is K Kp H' → o.run P fr H K Kp := fun h => by
  split at h
  · rename_i u T1 h1; cases h
    exact AOp.e_run hc hy h1 RF R
  · cases h
 cases o
 case callx f args =>
  simp only [AOp.ex, AOp.run, ← RF.ev, fvs_eq, mapE_eq] at h ⊢
  exact hx.ok _ _ _ _ _ h H R
 case callvx x args =>
  simp only [AOp.ex, AOp.run, ← RF.ev, fvs_eq, mapE_eq] at h ⊢
  generalize AX.ev fr x = vx at h ⊢
  split at h
  · exact hx.ok _ _ _ _ _ h H R
  · exact hx.ok _ _ _ _ _ h H R
  · cases h
 case pan x =>
  simp only [AOp.ex, AOp.run, ← RF.ev] at h ⊢
  generalize AX.ev fr x = vx at h ⊢
  split at h
  · rename_i t c
    cases hf : flatV c <;> simp only [hf, cond_true, cond_false] at h ⊢
    · cases h
    · cases h; exact ⟨H, R, fun K Kp hk => hk⟩
  · cases h
 all_goals exact nrm h
theorem AX.eF_look {F : BT AV} {fr : Fr} (RF : RepF F fr) (s : Nat) : AX.eF F (.t s) = look fr s := by
 have := congrFun RF.ev (.t s); exact this.symm
def XA.isN (K : Fr → Heap → Prop) (Kp : AV → Fr → Heap → Prop) (fr : Fr) (H : Heap) : XA → Prop
 | .normal => K fr H
 | .pan c => Kp c fr H
 | _ => False
theorem AO.e_run (hc : CallOK P call) (hx : CallXOK P cx) (hy : YieldOK P yl) {F F' : BT AV} {fr : Fr} {T T' : EH} {H : Heap} {o : AO} {x : XA} (h : o.e call cx yl F T = some (x, F', T')) (RF : RepF F fr) (R : RepH T H) :
 ∃ fr' H', RepF F' fr' ∧ RepH T' H' ∧ ((∃ c, x = .pan c) ∨ x = .normal) ∧ ∀ (K : Fr → Heap → Prop) (Kp : AV → Fr → Heap → Prop), x.isN K Kp fr' H' → o.run P fr H K Kp := by
 unfold AO.e at h; unfold AO.run
 simp only [putK_eq]
 split at h
 · rename_i hg
   split at h
   · rename_i v T1 hv
     split at h
     · rename_i F1 hF; cases h
       obtain ⟨H', R', hK⟩ := AOp.ex_run hc hx hy hv RF R
       exact ⟨_, H', RF.put hF, R', .inr rfl, fun K Kp hk => by simp only [hg]; exact hK _ _ hk⟩
     · cases h
   · rename_i c T1 hv; cases h
     obtain ⟨H', R', hK⟩ := AOp.ex_run hc hx hy hv RF R
     exact ⟨fr, H', RF, R', .inl ⟨_, rfl⟩, fun K Kp hk => by simp only [hg]; exact hK _ _ hk⟩
   · cases h
 · rename_i s want hg
   rw [AX.eF_look RF] at h
   split at h
   · rename_i b hb
     cases hw : b == want <;> simp only [hw, cond_true, cond_false] at h
     · split at h
       · rename_i F1 hF; cases h
         refine ⟨_, H, (RF.know hb).put hF, R, .inr rfl, fun K Kp hk => ?_⟩
         simp only [hg, hb]
         cases b <;> cases want <;> first | (cases hw; done) | exact Branch.ofT rfl hk | exact Branch.ofF rfl hk
       · cases h
     · split at h
       · rename_i v T1 hv
         split at h
         · rename_i F1 hF; cases h
           obtain ⟨H', R', hK⟩ := AOp.ex_run hc hx hy hv (RF.know hb) R
           refine ⟨_, H', (RF.know hb).put hF, R', .inr rfl, fun K Kp hk => ?_⟩
           simp only [hg, hb]
           cases b <;> cases want <;> first | (cases hw; done) | exact Branch.ofT rfl (hK _ _ hk) | exact Branch.ofF rfl (hK _ _ hk)
         · cases h
       · rename_i c T1 hv; cases h
         obtain ⟨H', R', hK⟩ := AOp.ex_run hc hx hy hv (RF.know hb) R
         refine ⟨_, H', (RF.know hb), R', .inl ⟨_, rfl⟩, fun K Kp hk => ?_⟩
         simp only [hg, hb]
         cases b <;> cases want <;> first | (cases hw; done) | exact Branch.ofT rfl (hK _ _ hk) | exact Branch.ofF rfl (hK _ _ hk)
       · cases h
   · rename_i hb
     split at h
     · rename_i F1 hF; cases h
       exact ⟨_, H, RF.put hF, R, .inr rfl, fun K Kp hk => by simp only [hg, hb]; exact hk⟩
     · cases h
   · cases h
theorem opsE_run (hc : CallOK P call) (hx : CallXOK P cx) (hy : YieldOK P yl) : ∀ {l : List AO} {F F' : BT AV} {fr : Fr} {T T' : EH} {H : Heap} {x : XA}, opsE call cx yl l F T = some (x, F', T') → RepF F fr → RepH T H →
 ∃ fr' H', RepF F' fr' ∧ RepH T' H' ∧ ∀ Q : XA → Fr → Heap → Prop, Q x fr' H' → runOps P (Q .normal) (fun c => Q (.pan c)) l fr H
 | [], F, F', fr, T, T', H, x, h, RF, R => by
  simp only [opsE] at h; cases h; exact ⟨fr, H, RF, R, fun Q hk => hk⟩
 | o :: r, F, F', fr, T, T', H, x, h, RF, R => by
  simp only [opsE] at h
  split at h
  · rename_i F1 T1 h1
    obtain ⟨fr1, H1, RF1, R1, _, hK1⟩ := AO.e_run hc hx hy h1 RF R
    obtain ⟨fr2, H2, RF2, R2, hK2⟩ := opsE_run hc hx hy h RF1 R1
    exact ⟨fr2, H2, RF2, R2, fun Q hk => hK1 _ _ (hK2 Q hk)⟩
  · rename_i hne
    obtain ⟨fr1, H1, RF1, R1, hor, hK1⟩ := AO.e_run hc hx hy h RF R
    refine ⟨fr1, H1, RF1, R1, fun Q hk => ?_⟩
    rcases hor with ⟨c, rfl⟩ | rfl
    · exact hK1 _ (fun c => Q (.pan c)) hk
    · exact absurd h (hne _ _)
theorem HOp.qe_run {ev : AX → AV} {η : Nat → AB} {p : Nat} {o : HOp} {v : AV} {b : Ef} (h : o.qe ev η p = some (v, b)) {K : AV → Ef → Prop} (hk : K v b) : o.q ev η p K := by
 cases o <;> simp only [HOp.qe, HOp.q] at h ⊢
 case load agg n x =>
  generalize ev x = vx at h ⊢
  split at h
  · split at h
    · rename_i u hu; cases h; exact loadE_run hu hk
    · cases h
  · split at h
    · rename_i cs hcs
      split at h
      · rename_i u hu; cases h
        simp only [hcs]; exact loadE_run hu hk
      · cases h
    · cases h
  · cases h
 case alloc zero => cases h; exact hk
 case box x =>
  split at h
  · rename_i l hl; cases h; simp only [hl]; exact hk
  · cases h
 case store n q x =>
  generalize ev q = vp at h ⊢
  split at h
  · split at h
    · rename_i cs hcs
      split at h
      · rename_i l hl
        cases hb : Nat.beq l.length n <;> simp only [hb, cond_true, cond_false] at h
        · cases h
        · split at h
          · rename_i cs' hp; cases h
            simp only [hcs, hl, hb, cond_true]; exact lputE_run hp hk
          · cases h
      · cases h
    · cases h
  · cases h
theorem MOp.qe_run {ev : AX → AV} {η : Nat → AB} {o : MOp} {v : AV} {b : Ef} (h : o.qe ev η = some (v, b)) {K : AV → Ef → Prop} (hk : K v b) : o.q ev η K := by
 cases o <;> simp only [MOp.qe, MOp.q] at h ⊢
 case mk => cases h
 case get ok kk zero m k =>
  split at h
  · rename_i p es hm
    cases hb : keyOk kk (ev k) <;> simp only [hb, cond_true, cond_false] at h
    · cases h
    · split at h
      · rename_i r hr; cases h
        exact mapE0_run hm (by simp only [cond_true]; exact ⟨r, hr, hk⟩)
      · cases h
  · cases h
 case set kk m k x =>
  split at h
  · rename_i p es hm
    cases hb : (keyOk kk (ev k)) <;> simp only [hb, cond_true, cond_false] at h
    · cases h
    · split at h
      · rename_i es' hr; cases h
        exact mapE0_run hm (by simp only [cond_true]; exact ⟨es', hr, hk⟩)
      · cases h
  · cases h
 case del kk m k =>
  split at h
  · rename_i p es hm
    cases hb : keyOk kk (ev k) <;> simp only [hb, cond_true, cond_false] at h
    · cases h
    · split at h
      · rename_i es' hr; cases h
        exact mapE0_run hm (by simp only [cond_true]; exact ⟨es', hr, hk⟩)
      · cases h
  · cases h
 case range m => cases h
 case next m => cases h
 case entry m => cases h
 case delw _ _ _ _ => cases h
 case copyS _ _ => cases h
 case copy e d s =>
  generalize ev d = vd at h ⊢
  split at h
  · rename_i k off n cap e'
    split at h
    · rename_i cs hcs
      split at h
      · rename_i ds m hs
        split at h
        · rename_i he
          cases hb : Nat.ble m n <;> simp only [hb, cond_true, cond_false] at h
          · split at h
            · rename_i cs' hl; cases h
              simp only [hcs]
              exact srcE_run hs ⟨he, .ofF (decide_eq_false (fun e => by have := Nat.ble_eq_true_of_le e; rw [this] at hb; cases hb)) (lputE_run hl hk)⟩
            · cases h
          · split at h
            · rename_i cs' hl; cases h
              simp only [hcs]
              exact srcE_run hs ⟨he, .ofT (decide_eq_true (Nat.le_of_ble_eq_true hb)) (lputE_run hl hk)⟩
            · cases h
        · cases h
      · cases h
    · cases h
  · cases h
 case len m =>
  split at h
  · rename_i p es hm; cases h
    exact mapE0_run hm hk
  · cases h
theorem AOp.qe_run (hc : CallOK P call) {ev : AX → AV} {η : Nat → AB} {p : Nat} {o : AOp} {v : AV} {b : Ef} (h : o.qe call ev η p = some (v, b)) {K : AV → Ef → Prop} (hk : K v b) : o.q P ev η p K := by
 cases o <;> simp only [AOp.qe, AOp.q, fvs_eq, mapE_eq] at h ⊢
 case m o => exact MOp.qe_run h hk
 case nq neg x => cases h
 case callx f args => cases h
 case callvx x args => cases h
 case calli tbl x args => cases h
 case pan x => cases h
 case p o =>
  split at h
  · rename_i u hu; cases h; exact o.e_run hu hk
  · cases h
 case v o =>
  split at h
  · rename_i u hu; cases h; exact o.e_run hu hk
  · cases h
 case h o => exact HOp.qe_run h hk
 case d o =>
  split at h
  · rename_i u hu; cases h; exact o.e_run hu hk
  · cases h
 case l o =>
  split at h
  · rename_i u cs kl hu; cases h; exact LOp.e_run hu hk
  · cases h
 case call f args =>
  split at h
  · rename_i r hr; cases h; exact callQ_run hc hr hk
  · cases h
 case callo f args =>
  split at h
  · rename_i n cp e cs hr; cases h; exact callB_run hc hr hk
  · cases h
 case callv x args =>
  generalize ev x = vx at h ⊢
  split at h
  · split at h
    · rename_i r hr; cases h; exact callQ_run hc hr hk
    · cases h
  · split at h
    · rename_i r hr; cases h; exact callQ_run hc hr hk
    · cases h
  · cases h
theorem layE_run : ∀ {b : Ef} {T T' : EH} {H : Heap}, layE T b = some T' → RepH T H → RepH T' (layH H b)
 | [], T, T', H, h, R => by simp only [layE] at h; cases h; exact R
 | (k, x) :: r, T, T', H, h, R => by
  simp only [layE] at h
  split at h
  · rename_i T1 h1; exact layE_run (H := H.set k x) h (R.put h1)
  · cases h
theorem logE_run {dep : List (Nat × Nat)} {i : Nat} {F W : List Nat} {L L' : List En} (h : logE dep i F W L = some L') {K : List En → Prop} (hk : K L') : logK dep i F W L K := by
 unfold logE at h; unfold logK
 split at h
 · cases h; exact hk
 · split
   · rename_i hn; exact absurd rfl (hn rfl)
   · cases hb : okLog dep ⟨i, F, W⟩ L <;> simp only [hb, cond_true, cond_false] at h ⊢
     · cases h
     · cases h; exact hk
theorem qwalkE_run (hc : CallOK P call) {dep : List (Nat × Nat)} : ∀ {l : List AO} {i p : Nat} {L : List En} {F F' : BT AV} {fr : Fr} {T T' : EH} {H : Heap}, qwalkE call dep l i p L F T = some (F', T') → RepF F fr → RepH T H →
 ∃ fr' H', RepF F' fr' ∧ RepH T' H' ∧ ∀ K : Fr → Heap → Prop, K fr' H' → qwalk P dep K l i p L fr H
 | [], i, p, L, F, F', fr, T, T', H, h, RF, R => by
  simp only [qwalkE] at h; cases h; exact ⟨fr, H, RF, R, fun K hk => hk⟩
 | q :: r, i, p, L, F, F', fr, T, T', H, h, RF, R => by
  simp only [qwalkE, AX.eF_look RF] at h
  -- an operation that is done
  have go : ∀ fr0, RepF F fr0 → (match q.op.qe call (AX.eF F) T.get p with
   | some (v, b) => match logE dep i (q.op.foot (AX.eF F)) (keys b) L with
    | some L' => match putE F q.dst v with
     | some F' => match layE T b with
      | some T' => forceN (i + 1) fun i' => forceN (p + 1) fun p' => qwalkE call dep r i' p' L' F' T'
      | none => none
     | none => none
    | none => none
   | none => none) = some (F', T') → ∃ fr' H', RepF F' fr' ∧ RepH T' H' ∧ ∀ K : Fr → Heap → Prop, K fr' H' →
    q.op.q P (AX.ev fr0) H.get p fun v b => logK dep i (q.op.foot (AX.ev fr0)) (keys b) L fun L => qwalk P dep K r (i + 1) (p + 1) L (put fr0 q.dst v) (layH H b) := by
   intro fr0 RF0 h
   split at h
   · rename_i v b hv
     split at h
     · rename_i L1 hL
       split at h
       · rename_i F1 hF
         split at h
         · rename_i T1 hT
           simp only [forceN_eq] at h
           obtain ⟨fr2, H2, RF2, R2, hK⟩ := qwalkE_run hc h (RF0.put hF) (layE_run hT R)
           refine ⟨fr2, H2, RF2, R2, fun K hk => ?_⟩
           rw [RF0.ev, R.get]
           exact AOp.qe_run hc hv (logE_run hL (hK K hk))
         · cases h
       · cases h
     · cases h
   · cases h
  have skip : ∀ fr0, RepF F fr0 → (match putE F q.dst (.tuple []) with
   | some F' => forceN (i + 1) fun i' => forceN (p + 1) fun p' => qwalkE call dep r i' p' L F' T
   | none => none) = some (F', T') → ∃ fr' H', RepF F' fr' ∧ RepH T' H' ∧ ∀ K : Fr → Heap → Prop, K fr' H' →
    qwalk P dep K r (i + 1) (p + 1) L (put fr0 q.dst (.tuple [])) H := by
   intro fr0 RF0 h
   split at h
   · rename_i F1 hF
     simp only [forceN_eq] at h
     exact qwalkE_run hc h (RF0.put hF) R
   · cases h
  simp only [qwalk_cons, qstep, layK_eq, putK_eq]
  cases hg : q.guard with
  | none =>
   simp only [hg] at h
   obtain ⟨fr', H', a, b, hK⟩ := go fr RF h
   exact ⟨fr', H', a, b, hK⟩
  | some sw =>
   obtain ⟨s, want⟩ := sw
   simp only [hg] at h
   cases hb : look fr s <;> simp only [hb] at h ⊢ <;> try (cases h; done)
   case bool b =>
    cases b <;> cases want <;> simp only [show (false == false) = true from rfl, show (true == true) = true from rfl, show (false == true) = false from rfl, show (true == false) = false from rfl] at h
    · obtain ⟨fr', H', a, b, hK⟩ := go _ (RF.know hb) h
      exact ⟨fr', H', a, b, fun K hk => Branch.ofF rfl (hK K hk)⟩
    · obtain ⟨fr', H', a, b, hK⟩ := skip _ (RF.know hb) h
      exact ⟨fr', H', a, b, fun K hk => Branch.ofF rfl (hK K hk)⟩
    · obtain ⟨fr', H', a, b, hK⟩ := skip _ (RF.know hb) h
      exact ⟨fr', H', a, b, fun K hk => Branch.ofT rfl (hK K hk)⟩
    · obtain ⟨fr', H', a, b, hK⟩ := go _ (RF.know hb) h
      exact ⟨fr', H', a, b, fun K hk => Branch.ofT rfl (hK K hk)⟩
   case tuple cs =>
    cases cs with
    | nil =>
     simp only at h ⊢
     obtain ⟨fr', H', a, b, hK⟩ := skip _ RF h
     exact ⟨fr', H', a, b, hK⟩
    | cons c cs => simp only at h; cases h
theorem loopE_run {n : Nat} {body : (XA → Fr → Heap → Prop) → Fr → Heap → Prop} {step : BT AV → EH → Option (XA × BT AV × EH)}
 (hs : ∀ F T x F' T', step F T = some (x, F', T') → ∀ fr H, RepF F fr → RepH T H → ∃ fr' H', RepF F' fr' ∧ RepH T' H' ∧ ∀ Q : XA → Fr → Heap → Prop, Q x fr' H' → body Q fr H) :
 ∀ (k : Nat) {F F' : BT AV} {fr : Fr} {T T' : EH} {H : Heap} {x : XA}, loopE step k F T = some (x, F', T') → RepF F fr → RepH T H →
  ∃ j fr' H', k = j + 1 ∧ RepF F' fr' ∧ RepH T' H' ∧ ∀ Q : XA → Fr → Heap → Prop, Q x fr' H' → body (lpost n Q j (LoopI n body Q j)) fr H
 | 0, _, _, _, _, _, _, _, h, _, _ => by simp [loopE] at h
 | k + 1, F, F', fr, T, T', H, x, h, RF, R => by
  simp only [loopE] at h
  split at h
  · rename_i F1 T1 h1
    obtain ⟨fr1, H1, RF1, R1, hK1⟩ := hs _ _ _ _ _ h1 fr H RF R
    obtain ⟨j, fr2, H2, rfl, RF2, R2, hK2⟩ := loopE_run (n := n) hs k h RF1 R1
    refine ⟨j + 1, fr2, H2, rfl, RF2, R2, fun Q hq => hK1 _ ?_⟩
    exact ⟨j, Nat.lt_succ_self _, To.refl (.inl ⟨rfl, hK2 Q hq⟩)⟩
  · rename_i hne
    obtain ⟨fr1, H1, RF1, R1, hK1⟩ := hs _ _ _ _ _ h fr H RF R
    refine ⟨k, fr1, H1, rfl, RF1, R1, fun Q hq => hK1 _ ?_⟩
    cases x with
    | normal => exact absurd h (hne _ _)
    | exit id => exact hq
    | ret => exact hq
    | pan c => exact hq
theorem selO_eq {β : Type} {F : BT AV} {fr : Fr} (RF : RepF F fr) : ∀ (l : List Nat) (K : Fr → Option β), selO F l K = K (selF fr l)
 | [], _ => rfl
 | t :: r, K => by
  have hg := RF.get t
  simp only [selO, selF]
  cases h : F.get t with
  | none => rw [h] at hg; simp only [selO_eq RF r, hg, Option.getD_none]
  | some v => rw [h] at hg; simp only [selO_eq RF r, hg, Option.getD_some]
def AC.rfAll (P : Program) : AC → Prop
 | .rangeF id _ _ ps A B => RfAt P id ps A B ∧ A.noRF = true ∧ B.noRF = true
 | .seq a b => a.rfAll P ∧ b.rfAll P
 | .cond _ a b => a.rfAll P ∧ b.rfAll P
 | .block _ a => a.rfAll P
 | .loop a => a.rfAll P
 | .ghost a => a.rfAll P
 | .scope a => a.rfAll P
 | _ => True
theorem AC.rfAll_of : ∀ {ac : AC}, ac.noRF = true → ac.rfAll P
 | .rangeF _ _ _ _ _ _, h => by simp [AC.noRF] at h
 | .seq a b, h => by simp only [AC.noRF, Bool.and_eq_true] at h; exact ⟨AC.rfAll_of h.1, AC.rfAll_of h.2⟩
 | .cond _ a b, h => by simp only [AC.noRF, Bool.and_eq_true] at h; exact ⟨AC.rfAll_of h.1, AC.rfAll_of h.2⟩
 | .block _ a, h => AC.rfAll_of (ac := a) (by simpa [AC.noRF] using h)
 | .loop a, h => AC.rfAll_of (ac := a) (by simpa [AC.noRF] using h)
 | .ghost a, h => AC.rfAll_of (ac := a) (by simpa [AC.noRF] using h)
 | .scope a, h => AC.rfAll_of (ac := a) (by simpa [AC.noRF] using h)
 | .skip, _ => trivial
 | .ret, _ => trivial
 | .exit _, _ => trivial
 | .reg _, _ => trivial
 | .draw _ _ _, _ => trivial
 | .act _ _ _, _ => trivial
theorem AOp.rdE_run {ev : AX → AV} {η : Nat → AB} {K : AV → Prop} {v : AV} : ∀ {o : AOp}, o.rdE ev η = some v → K v → o.rd ev η K
 | .p o, hh, hk => o.e_run hh hk
 | .v o, hh, hk => VOp.e_run hh hk
 | .h (.load agg n x), hh, hk => by
  simp only [AOp.rdE, AOp.rd] at hh ⊢
  generalize ev x = vx at hh ⊢
  split at hh
  · exact loadE_run hh hk
  · split at hh
    · rename_i hcs; simp only [hcs]; exact loadE_run hh hk
    · cases hh
  · cases hh
 | .m (.get ok kk zero mm k), hh, hk => by
  simp only [AOp.rdE, AOp.rd] at hh ⊢
  split at hh
  · rename_i p es hm
    cases hb : keyOk kk (ev k) <;> simp only [hb, cond_true, cond_false] at hh
    · cases hh
    · split at hh
      · rename_i r hr; cases hh
        exact mapE0_run hm (by simp only [cond_true]; exact ⟨r, hr, hk⟩)
      · cases hh
  · cases hh
theorem rdE_run {T : EH} {H : Heap} (R : RepH T H) : ∀ {l : List AO} {F F' : BT AV} {fr : Fr}, rdE T l F = some F' → RepF F fr → ∃ fr', RepF F' fr' ∧ ∀ K : Fr → Prop, K fr' → rdK H K l fr
 | [], F, F', fr, h, RF => by simp only [rdE] at h; cases h; exact ⟨fr, RF, fun K hk => hk⟩
 | q :: r, F, F', fr, h, RF => by
  simp only [rdE] at h
  split at h
  · rename_i v hv
    split at h
    · rename_i F1 h1
      obtain ⟨fr', RF', hK⟩ := rdE_run R h (RF.put h1)
      refine ⟨fr', RF', fun K hk => ?_⟩
      rw [rdK_cons, RF.ev]
      refine AOp.rdE_run (v := v) ?_ (hK K hk)
      have : H.get = T.get := R.get
      rw [this]; exact hv
    · cases h
  · cases h
theorem sameE_run {F G : BT AV} {f g : Fr} (RF : RepF F f) (RG : RepF G g) : ∀ {l : List AO}, sameE l F G = true → sameD l f g
 | [], _ => trivial
 | q :: r, h => by
  simp only [sameE, Bool.and_eq_true] at h
  refine ⟨?_, sameE_run RF RG h.2⟩
  have h1 := h.1
  cases hd : q.dst with
  | none => trivial
  | some d =>
   rw [hd] at h1
   simp only
   rw [← AX.eF_look RF, ← AX.eF_look RG]
   exact avEq_spec h1
theorem forgetE_run {F F' : BT AV} {fr : Fr} (RF : RepF F fr) : ∀ {l : List AO}, forgetE l F = some F' → RepF F' (forgetF l fr)
 | [], h => by simp only [forgetE] at h; cases h; exact RF
 | q :: r, h => by
  simp only [forgetE] at h
  split at h
  · rename_i F1 h1
    have R1 := forgetE_run RF h1
    simp only [forgetF]
    cases hd : q.dst with
    | none => rw [hd] at h; cases h; exact R1
    | some d => rw [hd] at h; exact R1.put h
  · cases h
theorem actE_run (hc : CallOK P call) (hx : CallXOK P cx) (hy : YieldOK P yl) {ci : Nat} {tags : List Nat} {qs : List AO} {F F' : BT AV} {fr : Fr} {T T' : EH} {H : Heap} {x : XA} (h : actE call cx yl ci tags qs F T = some (x, F', T')) (RF : RepF F fr) (R : RepH T H) :
 ∃ fr' H', RepF F' fr' ∧ RepH T' H' ∧ ∀ Q : XA → Fr → Heap → Prop, Q x fr' H' → actK P ci tags qs (Q .normal) (fun c => Q (.pan c)) fr H := by
 unfold actE at h
 split at h
 · rename_i c hci
   split at h
   · rename_i F0 h0
     obtain ⟨fr0, RF0, hK0⟩ := rdE_run R h0 RF
     split at h
     · rename_i v T1 h1
       obtain ⟨H1, R1, hop⟩ := AOp.ex_run hc hx hy h1 RF0 R
       split at h
       · rename_i F1 h2
         split at h
         · rename_i F2 h3
           cases hs : sameE (selT isF tags qs) F0 F2 <;> simp only [hs, cond_true, cond_false] at h
           · cases h
           · cases h
             obtain ⟨fr2, RF2, hK2⟩ := rdE_run R1 h3 (RF0.put h2)
             refine ⟨fr2, H1, RF2, R1, fun Q hq => ?_⟩
             unfold actK
             simp only [hci]
             refine hK0 _ (hop _ _ ?_)
             simp only [EO.is, putK_eq]
             exact hK2 _ ⟨sameE_run RF0 RF2 hs, hq⟩
         · cases h
       · cases h
     · rename_i e T1 h1
       obtain ⟨H1, R1, hop⟩ := AOp.ex_run hc hx hy h1 RF0 R
       split at h
       · rename_i F1 h2; cases h
         refine ⟨_, H1, forgetE_run RF h2, R1, fun Q hq => ?_⟩
         unfold actK
         simp only [hci]
         exact hK0 _ (hop _ _ hq)
       · cases h
     · cases h
   · cases h
 · cases h
theorem AC.e_run (hc : CallOK P call) (hx : CallXOK P cx) (hy : YieldOK P yl) {n lf : Nat} : ∀ (ac : AC), ac.rfAll P → ∀ {F F' : BT AV} {fr : Fr} {T T' : EH} {H : Heap} {x : XA}, ac.e call cx yl lf F T = some (x, F', T') → RepF F fr → RepH T H →
 ∃ fr' H', RepF F' fr' ∧ RepH T' H' ∧ ∀ Q : XA → Fr → Heap → Prop, Q x fr' H' → ac.run P n Q fr H
 | .skip, _, _, _, fr, _, _, H, _, h, RF, R => by simp only [AC.e] at h; cases h; exact ⟨fr, H, RF, R, fun Q hq => hq⟩
 | .ret, _, _, _, fr, _, _, H, _, h, RF, R => by simp only [AC.e] at h; cases h; exact ⟨fr, H, RF, R, fun Q hq => hq⟩
 | .exit id, _, _, _, fr, _, _, H, _, h, RF, R => by simp only [AC.e] at h; cases h; exact ⟨fr, H, RF, R, fun Q hq => hq⟩
 | .reg ops, _, _, _, fr, _, _, H, _, h, RF, R => by
  simp only [AC.e] at h
  obtain ⟨fr1, H1, RF1, R1, hK⟩ := opsE_run hc hx hy h RF R
  exact ⟨fr1, H1, RF1, R1, fun Q hq => hK Q hq⟩
 | .draw m dep ops, _, _, _, fr, T, _, H, _, h, RF, R => by
  simp only [AC.e, forceN_eq] at h
  split at h
  · rename_i F1 T1 h1
    obtain ⟨fr1, H1, RF1, R1, hK1⟩ := qwalkE_run hc h1 RF (H := ⟨H.nx + m, H.bs⟩) ⟨by simp [R.nx], R.get, R.noit⟩
    obtain ⟨fr2, H2, RF2, R2, hK2⟩ := opsE_run hc hx hy h RF1 R1
    refine ⟨fr2, H2, RF2, R2, fun Q hq => ?_⟩
    have := hK1 (fun fr H => runOps P (Q .normal) (fun c => Q (.pan c)) (ops.drop m) fr H) (hK2 Q hq)
    rw [← R.nx] at this
    have hsf : setFree (ops.take m) H.get H.nx = true := by
     rw [setFree, noIts_of (fun j => isIt_of (R.noit j))]; simp
    show (bif setFree (ops.take m) H.get H.nx then _ else False)
    rw [hsf]
    exact this
  · cases h
 | .seq a b, ⟨ra, rb⟩, _, _, fr, _, _, H, x, h, RF, R => by
  simp only [AC.e] at h
  split at h
  · rename_i F1 T1 h1
    obtain ⟨fr1, H1, RF1, R1, hK1⟩ := AC.e_run hc hx hy a ra h1 RF R
    obtain ⟨fr2, H2, RF2, R2, hK2⟩ := AC.e_run hc hx hy b rb h RF1 R1
    exact ⟨fr2, H2, RF2, R2, fun Q hq => hK1 _ (hK2 Q hq)⟩
  · rename_i hne
    obtain ⟨fr1, H1, RF1, R1, hK1⟩ := AC.e_run hc hx hy a ra h RF R
    refine ⟨fr1, H1, RF1, R1, fun Q hq => hK1 _ ?_⟩
    cases x with
    | normal => exact absurd h (hne _ _)
    | exit id => exact hq
    | ret => exact hq
    | pan c => exact hq
 | .cond c a b, ⟨ra, rb⟩, F, _, fr, _, _, H, _, h, RF, R => by
  simp only [AC.e] at h
  simp only [AC.run_cond, RF.ev]
  generalize AX.eF F c = vc at h ⊢
  cases vc <;> simp only at h ⊢ <;> try (cases h; done)
  rename_i t
  cases t <;> simp only at h
  · obtain ⟨fr1, H1, RF1, R1, hK1⟩ := AC.e_run hc hx hy b rb h RF R
    exact ⟨fr1, H1, RF1, R1, fun Q hq => Branch.ofF rfl (hK1 Q hq)⟩
  · obtain ⟨fr1, H1, RF1, R1, hK1⟩ := AC.e_run hc hx hy a ra h RF R
    exact ⟨fr1, H1, RF1, R1, fun Q hq => Branch.ofT rfl (hK1 Q hq)⟩
 | .block id a, ra, _, _, fr, _, _, H, x, h, RF, R => by
  simp only [AC.e] at h
  split at h
  · rename_i j F1 T1 h1
    obtain ⟨fr1, H1, RF1, R1, hK1⟩ := AC.e_run hc hx hy a ra h1 RF R
    cases hb : Nat.beq j id <;> simp only [hb, cond_true, cond_false] at h <;> cases h
    · exact ⟨fr1, H1, RF1, R1, fun Q hq => hK1 (blockK id Q) (by simp only [blockK, hb, cond_false]; exact hq)⟩
    · exact ⟨fr1, H1, RF1, R1, fun Q hq => hK1 (blockK id Q) (by simp only [blockK, hb, cond_true]; exact hq)⟩
  · rename_i hne
    obtain ⟨fr1, H1, RF1, R1, hK1⟩ := AC.e_run hc hx hy a ra h RF R
    refine ⟨fr1, H1, RF1, R1, fun Q hq => hK1 _ ?_⟩
    cases x with
    | normal => exact hq
    | exit id => exact absurd h (hne _ _ _)
    | ret => exact hq
    | pan c => exact hq
 | .loop a, ra, _, _, fr, _, _, H, _, h, RF, R => by
  simp only [AC.e] at h
  obtain ⟨j, fr1, H1, _, RF1, R1, hK⟩ := loopE_run (n := n) (body := a.run P n) (fun F T x F' T' hs fr H RF R => AC.e_run hc hx hy a ra hs RF R) lf h RF R
  exact ⟨fr1, H1, RF1, R1, fun Q hq => LoopA.unroll n (a.run P n) Q j (hK Q hq)⟩
 | .ghost a, ra, _, _, fr, _, _, H, _, h, RF, R => by
  simp only [AC.e] at h
  obtain ⟨fr1, H1, RF1, R1, hK1⟩ := AC.e_run hc hx hy a ra h RF R
  exact ⟨fr1, H1, RF1, R1, fun Q hq => To.refl (hK1 Q hq)⟩
 | .scope a, ra, _, _, fr, _, _, H, _, h, RF, R => by
  simp only [AC.e] at h
  obtain ⟨fr1, H1, RF1, R1, hK1⟩ := AC.e_run hc hx hy a ra h RF R
  exact ⟨fr1, H1, RF1, R1, fun Q hq => hK1 Q hq⟩
 | .act ci tags qs, _, _, _, fr, _, _, H, _, h, RF, R => by
  simp only [AC.e] at h
  exact actE_run hc hx hy h RF R
 | .rangeF id g sl ps A B, hrf, F, F', fr, T, T', H, x, h, RF, R => by
  simp only [AC.e, ← RF.ev] at h
  show ∃ fr' H', RepF F' fr' ∧ RepH T' H' ∧ ∀ Q : XA → Fr → Heap → Prop, Q x fr' H' → rangeE P id sl ps A B (g.ev fr) Q fr H
  simp only [rangeE_eq]
  generalize AX.ev fr g = vg at h ⊢
  split at h
  · rename_i f caps
    rw [selO_eq RF] at h
    split at h
    · rename_i T1 h1
      split at h
      · rename_i r2 T2 h2
        obtain ⟨H2, R2, hK2⟩ := hc.ok _ _ _ _ _ h2 _ (R.push h1)
        unfold rangeO at h
        have go : ∀ (st : RS) (x0 : XA) id' fr', T2.get T.nx = .loop st id' fr' → (∀ Q : XA → Fr → Heap → Prop, rangeK H.nx Q fr H2 = Q x0 fr (H2.set H.nx .dead)) → (match T2.put T.nx .dead with | some T' => some (x0, F, T') | none => none) = some (x, F', T') →
         ∃ fr' H', RepF F' fr' ∧ RepH T' H' ∧ ∀ Q : XA → Fr → Heap → Prop, Q x fr' H' → Side (RfAt P id ps A B ∧ A.noRF = true ∧ B.noRF = true) (CallA P f (.yld H.nx :: caps) (H.push (.loop .ready id (selF fr sl))) fun _ H' => rangeK H.nx Q fr H') := by
         intro st x0 id' fr' hg hk hp
         split at hp
         · rename_i T3 h3; cases hp
           refine ⟨fr, _, RF, (R2.put h3), fun Q hq => ⟨hrf, ?_⟩⟩
           rw [← R.nx] at hq hK2
           exact hK2 _ (by rw [hk]; exact hq)
         · cases hp
        have hkk : ∀ Q : XA → Fr → Heap → Prop, rangeK H.nx Q fr H2 = match T2.get T.nx with
         | .loop .ready _ _ => Q .normal fr (H2.set H.nx .dead)
         | .loop (.done .ret) _ _ => Q .ret fr (H2.set H.nx .dead)
         | .loop (.done (.exit i)) _ _ => Q (.exit i) fr (H2.set H.nx .dead)
         | _ => False := fun Q => by unfold rangeK; rw [R2.get, R.nx]; rfl
        split at h
        · rename_i id' fr' hg; exact go .ready _ _ _ hg (fun Q => by rw [hkk, hg]) h
        · rename_i id' fr' hg; exact go (.done .ret) _ _ _ hg (fun Q => by rw [hkk, hg]) h
        · rename_i i id' fr' hg; exact go (.done (.exit i)) _ _ _ hg (fun Q => by rw [hkk, hg]) h
        · cases h
      · cases h
    · cases h
  · cases h
theorem resE_run {F : BT AV} {fr : Fr} {T : EH} {H : Heap} (RF : RepF F fr) (R : RepH T H) : ∀ {rs : List AR} {vs : List AV}, resE F T rs = some vs → ∀ {K : List AV → Prop}, K vs → resK fr H rs K
 | [], _, h, K, hk => by simp only [resE] at h; cases h; exact hk
 | .tmp t :: r, _, h, K, hk => by
  simp only [resE, AX.eF_look RF] at h
  split at h
  · rename_i vs hv; cases h
    simp only [resK, fv_eq]
    exact resE_run RF R hv hk
  · cases h
 | .cell t agg n :: r, _, h, K, hk => by
  simp only [resE, AX.eF_look RF] at h
  simp only [resK]
  generalize look fr t = vt at h ⊢
  cases vt <;> simp only at h ⊢ <;> try (cases h; done)
  rw [← R.get] at h
  rename_i k off
  generalize H.get k = b at h ⊢
  cases b <;> simp only at h ⊢ <;> try (cases h; done)
  split at h
  · rename_i v hv
    split at h
    · rename_i vs hvs; cases h
      exact loadE_run hv (resE_run RF R hvs hk)
    · cases h
  · cases h
theorem frameE_rep : ∀ {vs : List AV} {i : Nat} {F : BT AV}, frameE i vs = some F → RepF F (frame0 i vs)
 | [], _, _, h => by simp only [frameE] at h; cases h; exact ⟨fun _ => rfl⟩
 | v :: r, i, F, h => by
  simp only [frameE] at h
  split at h
  · rename_i F1 h1; exact (frameE_rep h1).put h
  · cases h
theorem findE_spec : ∀ {tbl : List FE} {f : FuncId} {e : FE}, findE tbl f = some e → e ∈ tbl ∧ e.f = f
 | [], _, _, h => by simp [findE] at h
 | e :: r, f, e', h => by
  simp only [findE] at h
  cases hb : Nat.beq e.f f <;> simp only [hb, cond_true, cond_false] at h
  · have := findE_spec h; exact ⟨List.mem_cons_of_mem _ this.1, this.2⟩
  · cases h; exact ⟨List.mem_cons_self .., Nat.eq_of_beq_eq_true hb⟩
theorem frBT_rep : ∀ {fr : Fr} {F : BT AV}, frBT fr = some F → RepF F fr
 | [], _, h => by simp only [frBT] at h; cases h; exact ⟨fun _ => rfl⟩
 | (t, v) :: r, F, h => by
  simp only [frBT] at h
  split at h
  · rename_i F1 h1; exact (frBT_rep h1).put h
  · cases h
theorem putLE_rep : ∀ {ps : List Nat} {vs : List AV} {F F' : BT AV} {fr : Fr}, putLE F ps vs = some F' → RepF F fr → RepF F' (putL fr ps vs) ∧ vs.length = ps.length
 | [], [], _, _, _, h, R => by simp only [putLE] at h; cases h; exact ⟨R, rfl⟩
 | t :: ps, v :: vs, F, F', fr, h, R => by
  simp only [putLE] at h
  split at h
  · rename_i F1 h1
    obtain ⟨h2, h3⟩ := putLE_rep h (R.put h1)
    exact ⟨h2, by simp [h3]⟩
  · cases h
 | [], _ :: _, _, _, _, h, _ => by simp [putLE] at h
 | _ :: _, [], _, _, _, h, _ => by simp [putLE] at h
theorem findR_spec : ∀ {rt : List RE} {f : Nat} {e : RE}, findR rt f = some e → e ∈ rt ∧ e.id = f
 | [], _, _, h => by simp [findR] at h
 | e :: r, f, e', h => by
  simp only [findR] at h
  cases hb : Nat.beq e.id f <;> simp only [hb, cond_true, cond_false] at h
  · have := findR_spec h; exact ⟨List.mem_cons_of_mem _ this.1, this.2⟩
  · cases h; exact ⟨List.mem_cons_self .., Nat.eq_of_beq_eq_true hb⟩
theorem endO_run {k n : Nat} {x : XA} {T T' : EH} {r : AV} {H : Heap} {fr : Fr} (h : endO k x T = some (r, T')) (R : RepH T H) : ∃ H', RepH T' H' ∧ ∀ K : AV → Heap → Prop, K r H' → roundK n k K x fr H := by
 unfold endO at h
 split at h
 · rename_i id fr2 hk
   have hk' : H.get k = .loop .busy id fr2 := by rw [R.get]; exact hk
   cases x <;> simp only at h
   case pan c => cases h
   all_goals
    split at h
    · rename_i T1 h1; cases h
      refine ⟨_, R.put h1, fun K hq => ?_⟩
      simp only [roundK, hk', setK_eq]
      exact RetA.same hq
    · cases h
 · cases h
def FE.rfAll (P : Program) (e : FE) : Prop := e.ac.rfAll P ∧ match e.d with
 | none => True
 | some d => d.B.rfAll P
theorem FE.rfAll_of {e : FE} (h : e.noRF = true) : e.rfAll P := by
 unfold FE.noRF at h
 simp only [Bool.and_eq_true] at h
 refine ⟨AC.rfAll_of h.1, ?_⟩
 have h2 := h.2
 split
 · trivial
 · rename_i d hd; rw [hd] at h2; exact AC.rfAll_of h2
theorem DE.fin_run (hc : CallOK P call) (hx : CallXOK P cx) (hy : YieldOK P yl) {d : DE} (hd : okFD P d.g d.N d.t d.ac = true) {lf n : Nat} {rs : List AR} {caps : List AV} {m : Option AV} {F : BT AV} {T T' : EH} {H : Heap} {fr : Fr} {v : EO}
 (h : d.fin call cx yl lf rs caps (recV m) F T = some (v, T')) (hle : caps.length ≤ d.N) (RF : RepF F fr) (R : RepH T H) : ∃ H', RepH T' H' ∧ ∀ K Kp : AV → Heap → Prop, v.is K Kp H' → DefA P d.g caps m H fun H3 => resK fr H3 rs fun vs => RetA n K (one vs) H3 := by
 have hnrf : d.ac.noRF = true := by
  unfold okFD at hd; simp only [Bool.and_eq_true] at hd; exact hd.1.2
 unfold DE.fin at h
 split at h
 · rename_i G hG
   split at h
   · rename_i G' hG'
     have RG : RepF G' ((d.t, recV m) :: frame0 0 caps) := (frameE_rep hG).put hG'
     split at h
     · rename_i F4 T4 h4
       obtain ⟨fr4, H4, RF4, R4, hK⟩ := AC.e_run hc hx hy (n := H.nx) d.ac (AC.rfAll_of hnrf) h4 RG R
       split at h
       · rename_i l hl; cases h
         exact ⟨H4, R4, fun K Kp hk => defA_of hd hle (hK _ (RetP.same (resE_run RF R4 hl (RetA.same hk))))⟩
       · cases h
     · rename_i F4 T4 h4
       obtain ⟨fr4, H4, RF4, R4, hK⟩ := AC.e_run hc hx hy (n := H.nx) d.ac (AC.rfAll_of hnrf) h4 RG R
       split at h
       · rename_i l hl; cases h
         exact ⟨H4, R4, fun K Kp hk => defA_of hd hle (hK _ (RetP.same (resE_run RF R4 hl (RetA.same hk))))⟩
       · cases h
     · cases h
   · cases h
 · cases h
theorem DE.e_run (hc : CallOK P call) (hx : CallXOK P cx) (hy : YieldOK P yl) {d : DE} {f : FuncId} {N : Nat} {A : AC} {rs : List AR} (hok : okFX P f N A d.qs d.x d.B rs = true) (hd : okFD P d.g d.N d.t d.ac = true) (hB : d.B.rfAll P) {lf : Nat} {vs : List AV} {T T' : EH} {H : Heap} {v : EO}
 (h : d.e call cx yl lf rs A vs T = some (v, T')) (hN : vs.length ≤ N) (R : RepH T H) : ∃ H', RepH T' H' ∧ ∀ K Kp : AV → Heap → Prop, v.is K Kp H' → CallX P f vs H K Kp := by
 have hA : A.noRF = true := by
  unfold okFX at hok; simp only [Bool.and_eq_true] at hok; exact hok.1.2
 unfold DE.e at h
 split at h
 · rename_i F hF
   split at h
   · rename_i F1 T1 h1
     obtain ⟨fr1, H1, RF1, R1, hK1⟩ := AC.e_run hc hx hy (n := H.nx) A (AC.rfAll_of hA) h1 (frameE_rep hF) R
     split at h
     · rename_i F2 T2 h2
       obtain ⟨fr2, H2, RF2, R2, hK2⟩ := opsE_run hc hx hy h2 RF1 R1
       split at h
       · rename_i g caps hg
         have hg' : look fr2 d.x = .func g caps := by rw [← AX.eF_look RF2]; exact hg
         cases hb : (Nat.beq g d.g && Nat.ble caps.length d.N) <;> simp only [hb, cond_true, cond_false] at h
         · cases h
         · simp only [Bool.and_eq_true] at hb
           have e1 := Nat.eq_of_beq_eq_true hb.1
           have hle := Nat.le_of_ble_eq_true hb.2
           subst e1
           have fin : ∀ {x : XA} {F3 : BT AV} {T3 : EH} {m : Option AV}, d.B.e call cx yl lf F2 T2 = some (x, F3, T3) → (x = .normal ∧ m = none ∨ x = .ret ∧ m = none ∨ ∃ c, x = .pan c ∧ m = some c) → d.fin call cx yl lf rs caps (recV m) F3 T3 = some (v, T') → ∃ H', RepH T' H' ∧ ∀ K Kp : AV → Heap → Prop, v.is K Kp H' → CallX P f vs H K Kp := by
            intro x F3 T3 m h3 hm hf
            obtain ⟨fr3, H3, RF3, R3, hK3⟩ := AC.e_run hc hx hy (n := H2.nx) d.B hB h3 RF2 R2
            obtain ⟨H4, R4, hK4⟩ := DE.fin_run hc hx hy hd (n := H.nx) hf hle RF3 R3
            refine ⟨H4, R4, fun K Kp hk => callXD_of hok hN (hK1 _ ?_)⟩
            refine hK2 (fun e fr H' => match e with
             | .normal => (match look fr d.x with
              | .func g caps => d.B.run P H'.nx (endDx P H.nx g caps rs K) fr H'
              | _ => False)
             | .pan c => RetP H.nx (Kp c) H'
             | _ => False) ?_
            simp only [hg']
            refine hK3 _ ?_
            rcases hm with ⟨rfl, rfl⟩ | ⟨rfl, rfl⟩ | ⟨c, rfl, rfl⟩ <;> exact hK4 K Kp hk
           split at h
           · rename_i F3 T3 h3; exact fin (m := none) h3 (.inl ⟨rfl, rfl⟩) h
           · rename_i F3 T3 h3; exact fin (m := none) h3 (.inr (.inl ⟨rfl, rfl⟩)) h
           · rename_i c F3 T3 h3; exact fin (m := some c) h3 (.inr (.inr ⟨c, rfl, rfl⟩)) h
           · cases h
       · cases h
     · rename_i c F2 T2 h2; cases h
       obtain ⟨fr2, H2, RF2, R2, hK2⟩ := opsE_run hc hx hy h2 RF1 R1
       refine ⟨H2, R2, fun K Kp hk => callXD_of hok hN (hK1 _ ?_)⟩
       refine hK2 (fun e fr H' => match e with
        | .normal => (match look fr d.x with
         | .func g caps => d.B.run P H'.nx (endDx P H.nx g caps rs K) fr H'
         | _ => False)
        | .pan c => RetP H.nx (Kp c) H'
        | _ => False) ?_
       exact RetP.same hk
     · cases h
   · rename_i c F1 T1 h1; cases h
     obtain ⟨fr1, H1, RF1, R1, hK1⟩ := AC.e_run hc hx hy (n := H.nx) A (AC.rfAll_of hA) h1 (frameE_rep hF) R
     exact ⟨H1, R1, fun K Kp hk => callXD_of hok hN (hK1 _ (RetP.same hk))⟩
   · rename_i F1 T1 h1
     obtain ⟨fr1, H1, RF1, R1, hK1⟩ := AC.e_run hc hx hy (n := H.nx) A (AC.rfAll_of hA) h1 (frameE_rep hF) R
     split at h
     · rename_i l hl; cases h
       exact ⟨H1, R1, fun K Kp hk => callXD_of hok hN (hK1 _ (resE_run RF1 R1 hl (RetA.same hk)))⟩
     · cases h
   · cases h
 · cases h
theorem bodyE_run (hc : CallOK P call) (hx : CallXOK P cx) (hy : YieldOK P yl) {lf : Nat} {e : FE} (hok : e.ok P) (hrfe : e.rfAll P) {vs : List AV} {T T' : EH} {H : Heap} {r : EO} (h : bodyE call cx yl lf e vs T = some (r, T')) (R : RepH T H) :
 ∃ H', RepH T' H' ∧ ∀ K Kp : AV → Heap → Prop, r.is K Kp H' → CallX P e.f vs H K Kp := by
 unfold bodyE at h
 cases hb : Nat.ble vs.length e.N <;> simp only [hb, cond_true, cond_false] at h
 · cases h
 · unfold FE.ok at hok
   unfold FE.rfAll at hrfe
   split at h
   · rename_i d hd
     simp only [hd] at hok hrfe
     exact DE.e_run hc hx hy hok.1 hok.2 hrfe.2 h (Nat.le_of_ble_eq_true hb) R
   · rename_i hd
     simp only [hd] at hok hrfe
     split at h
     · rename_i F hF
       split at h
       · cases h
       · rename_i c F' T1 hx1; cases h
         obtain ⟨fr1, H1, RF1, R1, hK⟩ := AC.e_run hc hx hy (n := H.nx) e.ac hrfe.1 hx1 (frameE_rep hF) R
         exact ⟨H1, R1, fun K Kp hk => callX_of hok (Nat.le_of_ble_eq_true hb) (hK _ (RetP.same hk))⟩
       · rename_i x F' T1 hne hnp hx1
         split at h
         · rename_i rs hrs; cases h
           obtain ⟨fr1, H1, RF1, R1, hK⟩ := AC.e_run hc hx hy (n := H.nx) e.ac hrfe.1 hx1 (frameE_rep hF) R
           refine ⟨H1, R1, fun K Kp hk => callX_of hok (Nat.le_of_ble_eq_true hb) (hK _ ?_)⟩
           cases x with
           | normal => exact resE_run RF1 R1 hrs (RetA.same hk)
           | exit id => exact (hne _ rfl).elim
           | ret => exact resE_run RF1 R1 hrs (RetA.same hk)
           | pan c => exact (hnp _ rfl).elim
         · cases h
       · cases h
     · cases h
theorem runB_ok {ov : CallE} (hov : CallOK P ov) {tbl : List FE} (htbl : ∀ e ∈ tbl, e.ok P) (hrf : ∀ e ∈ tbl, e.rfAll P) {rt : List RE} (hrt : ∀ e ∈ rt, RfAt P e.id e.ps e.A e.B ∧ e.A.noRF = true ∧ e.B.noRF = true) (lf : Nat) : ∀ n, CallXOK P (fun f => runB ov tbl rt lf n (.inl f)) ∧ YieldOK P (CallXE.call fun k => runB ov tbl rt lf n (.inr k))
 | 0 => ⟨⟨fun f vs T r T' h => by simp [runB] at h⟩, ⟨fun f vs T r T' h => by simp [runB, CallXE.call] at h⟩⟩
 | n + 1 => by
  obtain ⟨hx, hy⟩ := runB_ok hov htbl hrf hrt lf n
  have hc := hx.toA
  refine ⟨⟨fun f vs T r T' h H R => ?_⟩, ⟨fun k vs T r T' h H R => ?_⟩⟩
  · simp only [runB] at h
    split at h
    · split at h
      · rename_i v T1 h1; cases h
        obtain ⟨H', R', hK⟩ := hov.ok _ _ _ _ _ h1 H R
        exact ⟨H', R', fun K Kp hk => (hK K hk).toX⟩
      · cases h
    · rename_i e he
      obtain ⟨hm, rfl⟩ := findE_spec he
      have hok := htbl e hm
      have hrfe := hrf e hm
      cases hp : (e.pub && noLocL vs) <;> simp only [hp, pubR, cond_true, cond_false] at h
      · exact bodyE_run hc hx hy hok hrfe h R
      · simp only [Bool.and_eq_true] at hp
        split at h
        · rename_i v0 T0 h0
          split at h
          · rename_i d hd
            cases hn : noLoc d <;> simp only [hn, cond_true, cond_false] at h
            · cases h
            · cases h
              obtain ⟨H0, R0, hK⟩ := bodyE_run hc hx hy hok hrfe h0 RepH.nil
              refine ⟨H, R, fun K Kp hk => CallA.toX ?_⟩
              have h1 : CallA P e.f vs Heap.nil fun v H => v = v0 ∧ H = H0 := CallX.toA (hK (fun v H => v = v0 ∧ H = H0) (fun _ _ => False) ⟨rfl, rfl⟩)
              have h2 : CallA P e.f vs Heap.nil fun v H' => v = d ∧ H' = Heap.nil := CallA.out 8 h1 (by
               rintro v H ⟨rfl, rfl⟩
               exact ⟨d, by rw [R0.get]; exact hd, rfl, rfl⟩)
              exact CallA.pure h2 hp.2 hn hk
          · cases h
        · cases h
  · simp only [runB, CallXE.call] at h
    split at h
    · rename_i v1 T9 hh
      cases h
      split at hh
      · rename_i id fr hk
        split at hh
        · rename_i e he
          obtain ⟨hm, rfl⟩ := findR_spec he
          obtain ⟨hat, hnA, hnB⟩ := hrt e hm
          split at hh
          · rename_i F0 h0
            split at hh
            · rename_i F1 h1
              obtain ⟨RF1, hlen⟩ := putLE_rep h1 (frBT_rep h0)
              split at hh
              · rename_i F2 T2 h2
                obtain ⟨fr2, H2, RF2, R2, hK2⟩ := AC.e_run hc hx hy (n := H.nx) e.A (AC.rfAll_of hnA) h2 RF1 R
                split at hh
                · rename_i id2 fr3 hk2
                  split at hh
                  · rename_i T3 h3
                    split at hh
                    · rename_i x F4 T4 h4
                      split at hh
                      · rename_i v5 T5 h5; cases hh
                        obtain ⟨fr4, H4, RF4, R4, hK4⟩ := AC.e_run hc hx hy (n := H.nx) e.B (AC.rfAll_of hnB) h4 RF2 (R2.put h3)
                        obtain ⟨H5, R5, hK5⟩ := endO_run (n := H.nx) (fr := fr4) h5 R4
                        refine ⟨H5, R5, fun K hq => YieldA.of (by rw [R.get]; exact hk) hat hlen (hK2 _ ?_)⟩
                        simp only [assignK, show H2.get k = .loop .ready id2 fr3 by rw [R2.get]; exact hk2, setK_eq]
                        exact hK4 _ (hK5 K hq)
                      · cases hh
                    · cases hh
                  · cases hh
                · cases hh
              · cases hh
            · cases hh
          · cases hh
        · cases hh
      · cases hh
    · cases h
theorem runO_ok {ov : CallE} (hov : CallOK P ov) {tbl : List FE} (htbl : ∀ e ∈ tbl, e.ok P) (hrf : ∀ e ∈ tbl, e.rfAll P) {rt : List RE} (hrt : ∀ e ∈ rt, RfAt P e.id e.ps e.A e.B ∧ e.A.noRF = true ∧ e.B.noRF = true) (lf n : Nat) : CallOK P (runO ov tbl rt lf n) := (runB_ok hov htbl hrf hrt lf n).1.toA
def rfTbl (P : Program) : List FE → Prop
 | [] => True
 | e :: r => e.rfAll P ∧ rfTbl P r
theorem rfTbl_spec : ∀ {tbl : List FE}, rfTbl P tbl → ∀ e ∈ tbl, e.rfAll P
 | [], _, e, he => by cases he
 | e :: r, h, e', he => by
  rcases List.mem_cons.1 he with rfl | he
  · exact h.1
  · exact rfTbl_spec h.2 e' he
def rtAll (P : Program) : List RE → Prop
 | [] => True
 | e :: r => (RfAt P e.id e.ps e.A e.B ∧ e.A.noRF = true ∧ e.B.noRF = true) ∧ rtAll P r
theorem rtAll_spec : ∀ {rt : List RE}, rtAll P rt → ∀ e ∈ rt, RfAt P e.id e.ps e.A e.B ∧ e.A.noRF = true ∧ e.B.noRF = true
 | [], _, e, he => by cases he
 | e :: r, h, e', he => by
  rcases List.mem_cons.1 he with rfl | he
  · exact h.1
  · exact rtAll_spec h.2 e' he
theorem noRF_spec {tbl : List FE} (h : tbl.all (·.noRF) = true) : ∀ e ∈ tbl, e.rfAll P := fun e he => FE.rfAll_of (List.all_eq_true.1 h e he)
theorem runE_ok {tbl : List FE} (htbl : ∀ e ∈ tbl, e.ok P) (hnr : tbl.all (·.noRF) = true) (lf : Nat) (n : Nat) : CallOK P (runE tbl lf n) := runO_ok ⟨fun _ _ _ _ _ h => by cases h⟩ htbl (noRF_spec hnr) (fun _ h => by cases h) lf n
def okAll (P : Program) : List FE → Prop
 | [] => True
 | e :: r => e.ok P ∧ okAll P r
theorem okAll_spec : ∀ {tbl : List FE}, okAll P tbl → ∀ e ∈ tbl, e.ok P
 | [], _, e, he => by cases he
 | e :: r, h, e', he => by
  rcases List.mem_cons.1 he with rfl | he
  · exact h.1
  · exact okAll_spec h.2 e' he
def resultE (tbl : List FE) (lf n : Nat) (f : FuncId) (vs : List AV) : Option AV := match runE tbl lf n f vs EH.nil with
 | some (r, T) => pubE T.get 8 r
 | none => none
theorem CallA.computed {tbl : List FE} (htbl : okAll P tbl) (lf n : Nat) {f : FuncId} {vs : List AV} {r : AV} (h : resultE tbl lf n f vs = some r) (hnr : tbl.all (·.noRF) = true := by rfl) :
 CallA P f vs Heap.nil fun v H' => v = r ∧ H' = Heap.nil := by
 unfold resultE at h
 split at h
 · rename_i r' T' hrun
   obtain ⟨H', R', hK⟩ := (runE_ok (okAll_spec htbl) hnr lf n).ok _ _ _ _ _ hrun _ RepH.nil
   refine CallA.out 8 (hK (fun v H => v = r' ∧ H = H') ⟨rfl, rfl⟩) ?_
   rintro v H ⟨rfl, rfl⟩
   exact ⟨_, by rw [R'.get]; exact h, rfl, rfl⟩
 · cases h
def resultO (ov : CallE) (tbl : List FE) (lf n : Nat) (f : FuncId) (vs : List AV) : Option AV := match runO ov tbl [] lf n f vs EH.nil with
 | some (r, T) => pubE T.get 8 r
 | none => none
def resultR (ov : CallE) (tbl : List FE) (rt : List RE) (lf n : Nat) (f : FuncId) (vs : List AV) : Option AV := match runO ov tbl rt lf n f vs EH.nil with
 | some (r, T) => pubE T.get 8 r
 | none => none
theorem CallA.computedR {ov : CallE} (hov : CallOK P ov) {tbl : List FE} (htbl : okAll P tbl) (hrf : rfTbl P tbl) {rt : List RE} (hrt : rtAll P rt) (lf n : Nat) {f : FuncId} {vs : List AV} {r : AV} (h : resultR ov tbl rt lf n f vs = some r) :
 CallA P f vs Heap.nil fun v H' => v = r ∧ H' = Heap.nil := by
 unfold resultR at h
 split at h
 · rename_i r' T' hrun
   obtain ⟨H', R', hK⟩ := (runO_ok hov (okAll_spec htbl) (rfTbl_spec hrf) (rtAll_spec hrt) lf n).ok _ _ _ _ _ hrun _ RepH.nil
   refine CallA.out 8 (hK (fun v H => v = r' ∧ H = H') ⟨rfl, rfl⟩) ?_
   rintro v H ⟨rfl, rfl⟩
   exact ⟨_, by rw [R'.get]; exact h, rfl, rfl⟩
 · cases h
def noOv : CallE := fun _ _ _ => none
theorem noOv_ok : CallOK P noOv := ⟨fun _ _ _ _ _ h => by cases h⟩
end
end Go.Eng

set_option maxRecDepth 1000000
set_option maxHeartbeats 0
namespace Go.Proofs
open Go Go.Eng
instance globs : Globs := { l := [], rf := fun id N ps asg bd => match id with
 | 770 => RfIs Tryz.prog N [42, 43] rfA770 rfB770 ps asg bd
 | 910 => RfIs Tryz.prog N [30] rfA910 rfB910 ps asg bd
 | 2140 => RfIs Tryz.prog N [15] rfA2140 rfB2140 ps asg bd
 | _ => False }
theorem at770 : RfAt Tryz.prog 770 [42, 43] rfA770 rfB770 := ⟨fun _ _ _ _ => Iff.rfl⟩
theorem at910 : RfAt Tryz.prog 910 [30] rfA910 rfB910 := ⟨fun _ _ _ _ => Iff.rfl⟩
theorem at2140 : RfAt Tryz.prog 2140 [15] rfA2140 rfB2140 := ⟨fun _ _ _ _ => Iff.rfl⟩
end Go.Proofs

namespace Go.Eng
open Go
variable [Globs]

def locsV : Nat → AV → List Nat → List Nat
 | 0, _, l => l
 | n + 1, v, l => match v with
  | .slice k _ _ _ _ => consN k l
  | .ptr k _ => consN k l
  | .agg cs => List.foldr (locsV n) l cs
  | .tuple cs => List.foldr (locsV n) l cs
  | _ => l
def locsL (vs : List AV) : List Nat := List.foldr (locsV 4) [] vs
def pubArgs : List Nat → List AV → EH → Option (List AV × EH)
 | [], vs, T => some (vs, T)
 | k :: ks, vs, T => match T.get k with
  | .cells ds => bif noLocL ds then (match T.put k .dead with
   | some T' => pubArgs ks (pubL k ds vs) T'
   | none => none) else none
  | _ => none
def ovP (pf : FuncId) (inner ov : CallE) : CallE := fun f vs T => bif Nat.beq f pf then (match pubArgs (locsL vs) vs T with
 | some (vs', T') => inner f vs' T'
 | none => none) else ov f vs T
end Go.Eng

namespace Go.Eng
open Go
variable [Globs]

def btB : List UInt8 → List UInt8 → Bool
 | [], [] => true
 | a :: r, b :: s => Nat.beq a.toNat b.toNat && btB r s
 | _, _ => false
def intB : Int → Int → Bool
 | .ofNat a, .ofNat b => Nat.beq a b
 | .negSucc a, .negSucc b => Nat.beq a b
 | _, _ => false
def capB : Option Nat → Option Nat → Bool
 | none, none => true
 | some a, some b => Nat.beq a b
 | _, _ => false
def allB (f : AV → AV → Bool) : List AV → List AV → Bool
 | [], [] => true
 | a :: r, b :: s => f a b && allB f r s
 | _, _ => false
def avB : Nat → AV → AV → Bool
 | 0, _, _ => false
 | n + 1, a, b => match a, b with
  | .int j x, .int k y => (if j = k then true else false) && intB x y
  | .bool x, .bool y => x == y
  | .str x, .str y => btB x.data.toList y.data.toList
  | .nils, .nils => true
  | .nilp, .nilp => true
  | .nili, .nili => true
  | .nilf, .nilf => true
  | .nilm, .nilm => true
  | .dslice cs l c, .dslice ds m d => Nat.beq l m && capB c d && allB (avB n) cs ds
  | .agg cs, .agg ds => allB (avB n) cs ds
  | .tuple cs, .tuple ds => allB (avB n) cs ds
  | _, _ => false
abbrev MemE := FuncId × List AV × AV
def memF : List MemE → FuncId → List AV → Option AV
 | [], _, _ => none
 | (g, qa, r) :: l, f, vs => bif Nat.beq f g && allB (avB 12) vs qa then some r else memF l f vs
structure MemOk (P : Program) (e : MemE) : Prop where
 run : CallA P e.1 e.2.1 Heap.nil fun v H' => v = e.2.2 ∧ H' = Heap.nil
 arg : noLocL e.2.1 = true
 res : noLoc e.2.2 = true
def memOk (P : Program) : List MemE → Prop
 | [] => True
 | e :: r => MemOk P e ∧ memOk P r
def ovM (l : List MemE) (ov : CallE) : CallE := fun f vs T => match memF l f vs with
 | some r => some (r, T)
 | none => ov f vs T
end Go.Eng

namespace Go.Proofs
open Go Go.Eng
set_option maxRecDepth 100000

abbrev I (n : Int) : AV := .int .i64 n
abbrev B (n : Nat) : AV := .int .u8 (n : Int)
theorem dat {l : List AV} (h : l.all noLoc = true) : ∀ c ∈ l, noLoc c = true := by simpa using h
theorem wrapI {n : Int} (h : -9223372036854775808 ≤ n ∧ n ≤ 9223372036854775807) : IntKind.i64.wrap n = n := wrap_in (by
 have e1 : IntKind.i64.min = -9223372036854775808 := rfl
 have e2 : IntKind.i64.max = 9223372036854775807 := rfl
 omega)

structure Sg where
 (a : Int) (s : ByteArray)
structure Im where
 (e p : Int) (sg : List Sg) (dc : List AV) (dn : Nat)
def sgc : List Sg → List AV
 | [] => []
 | x :: r => I x.a :: .str x.s :: sgc r
def Im.av (i : Im) : AV := .agg [I i.e, I i.p, .dslice (sgc i.sg) i.sg.length none, .dslice i.dc i.dn none]
structure Im.ok (i : Im) : Prop where
 e : -9223372036854775808 ≤ i.e ∧ i.e ≤ 9223372036854775807
 p : -9223372036854775808 ≤ i.p ∧ i.p ≤ 9223372036854775807
 a : ∀ x ∈ i.sg, -9223372036854775808 ≤ x.a ∧ x.a ≤ 9223372036854775807
 z : ∀ x ∈ i.sg, x.s.size ≤ 9223372036854775807
 n : i.sg.length ≤ 100 ∧ i.dn ≤ 100
 dl : i.dc.length = 128 * i.dn
 ds : ∀ c ∈ i.dc, scal c = true
 dd : ∀ c ∈ i.dc, noLoc c = true
theorem sgc_len : ∀ l : List Sg, (sgc l).length = 2 * l.length
 | [] => rfl
 | x :: r => by simp [sgc, sgc_len r]; omega
theorem sgc_noLocL : ∀ l : List Sg, noLocL (sgc l) = true
 | [] => rfl
 | x :: r => by
  show (noLoc (I x.a) && (noLoc (.str x.s) && noLocL (sgc r))) = true
  rw [sgc_noLocL r]; rfl
theorem sgc_at : ∀ {l : List Sg} {i off : Nat} (h : i < l.length) (ho : off = 2 * i), (sgc l).drop off = I (l[i]).a :: .str (l[i]).s :: sgc (l.drop (i + 1))
 | x :: r, 0, _, _, rfl => rfl
 | x :: r, i + 1, off, h, ho => by
  subst ho
  have := sgc_at (l := r) (i := i) (off := 2 * i) (by simpa using h) rfl
  rw [show 2 * (i + 1) = 2 * i + 1 + 1 by omega]
  simpa [sgc] using this
theorem noLocL_of : ∀ {l : List AV}, (∀ c ∈ l, noLoc c = true) → noLocL l = true
 | [], _ => rfl
 | c :: r, h => by
  simp only [noLocL, Bool.and_eq_true]
  exact ⟨h c List.mem_cons_self, noLocL_of fun d hd => h d (List.mem_cons_of_mem _ hd)⟩
theorem Im.noLoc {i : Im} (h : i.ok) : noLoc i.av = true := by
 simp [Im.av, Go.Eng.noLoc, noLocL, sgc_noLocL, noLocL_of h.dd]
def entB (e p : Int) : Bool := decide (0 ≤ e ∧ e % 4 = 0 ∧ e ≤ p * 128 - 4)
def segB (z : Int) : Int → List Sg → Bool
 | _, [] => true
 | e, x :: r => !(decide (x.s.size = 0) || decide (x.a < e) || decide (x.a > z) || decide ((x.s.size : Int) > z - x.a)) && segB z (x.a + x.s.size) r
def Im.chk (i : Im) : Int := if i.p < 1 ∨ i.p > 64 ∨ entB i.e i.p = false then 7 else if i.sg.length > 64 ∨ i.dn > 64 then 2 else if segB (i.p * 128) 0 i.sg = true then 0 else 3
theorem c68 (e p : Int) (he : -9223372036854775808 ≤ e ∧ e ≤ 9223372036854775807) (hp : 1 ≤ p ∧ p ≤ 64) : CallA Tryz.prog 68 [I e, I p] Heap.nil fun v H' => v = .bool (entB e p) ∧ H' = Heap.nil := by
 refine callA_of ok68 (Nat.le_of_ble_eq_true rfl) ?_
 repeat' ((conv => whnf); first | refine Branch.ofT rfl ?_ | refine Branch.ofF rfl ?_ | refine Branch.dec (fun h => ?_) (fun h => ?_) | refine Branch.negdec (fun h => ?_) (fun h => ?_) | refine Branch.neg (fun h => ?_) (fun h => ?_) | refine Branch.mk (fun h => ?_) (fun h => ?_) | (refine Side.mk ?_ ?_; · first | omega | decide) | (refine SideD.mk ?_ ?_; · first | omega | decide) | refine ⟨_, Nat.lt_succ_self _, To.refl (.inl ⟨rfl, ?_⟩)⟩ | refine Side.mk (by omega) ?_ | (refine Side.mk ?_ ?_; · (simp; done)) | fail)
 all_goals (conv => whnf)
 all_goals
  refine RetA.data rfl ⟨?_, rfl⟩
  unfold entB
  simp only [Eng.one, AV.bool.injEq]
  first
   | (symm; apply decide_eq_false; omega)
   | (rw [decide_eq_decide]; omega)
theorem c72 (e p : Int) (he : -9223372036854775808 ≤ e ∧ e ≤ 9223372036854775807) (hp : 1 ≤ p ∧ p ≤ 64) : CallA Tryz.prog 72 [I e, I p] Heap.nil fun v H' => v = .bool (entB e p) ∧ H' = Heap.nil := by
 refine callA_of ok72 (Nat.le_of_ble_eq_true rfl) ?_
 repeat' ((conv => whnf); first | refine Branch.ofT rfl ?_ | refine Branch.ofF rfl ?_ | refine Branch.dec (fun h => ?_) (fun h => ?_) | refine Branch.negdec (fun h => ?_) (fun h => ?_) | refine Branch.neg (fun h => ?_) (fun h => ?_) | refine Branch.mk (fun h => ?_) (fun h => ?_) | (refine Side.mk ?_ ?_; · first | omega | decide) | (refine SideD.mk ?_ ?_; · first | omega | decide) | refine ⟨_, Nat.lt_succ_self _, To.refl (.inl ⟨rfl, ?_⟩)⟩ | refine Side.mk (by omega) ?_ | (refine Side.mk ?_ ?_; · (simp; done)) | fail)
 all_goals (conv => whnf)
 all_goals
  refine RetA.data rfl ⟨?_, rfl⟩
  unfold entB
  simp only [Eng.one, AV.bool.injEq]
  first
   | (symm; apply decide_eq_false; omega)
   | (rw [decide_eq_decide]; omega)
end Go.Proofs

namespace Go.Proofs
open Go Go.Eng
set_option maxRecDepth 100000
set_option maxHeartbeats 4000000

theorem size0 {s : ByteArray} (h : s.size = 0) : s = ⟨#[]⟩ := by
 obtain ⟨⟨l⟩⟩ := s
 have : l.length = 0 := h
 have := List.eq_nil_of_length_eq_zero this
 subst this; rfl
theorem tk2 {l : List Sg} {i off : Nat} {K : List AV → Prop} (h : i < l.length) (ho : off = 2 * i) (hk : K [I (l[i]).a, .str (l[i]).s]) : takeK 2 ((sgc l).drop off) K := by
 rw [takeK_eq _ _ _ (by rw [List.length_drop, sgc_len]; omega), sgc_at h ho]; exact hk
theorem tkp {l : List Sg} {i off : Nat} {a : Int} {s : ByteArray} {K : List AV → Prop} (h : i < l.length) (hx : l[i] = ⟨a, s⟩) (ho : off = 2 * i) (hk : K [I a, .str s]) : takeK 2 ((sgc l).drop off) K := by
 refine tk2 h ho ?_
 rw [hx]; exact hk
theorem segB_at {z e : Int} {l : List Sg} {k : Nat} (h : k < l.length) : segB z e (l.drop k) = (!(decide ((l[k]).s.size = 0) || decide ((l[k]).a < e) || decide ((l[k]).a > z) || decide (((l[k]).s.size : Int) > z - (l[k]).a)) && segB z ((l[k]).a + (l[k]).s.size) (l.drop (k + 1))) := by
 rw [List.drop_eq_getElem_cons h]; rfl
def imc (i : Im) : AB := .cells [I i.e, I i.p, .dslice (sgc i.sg) i.sg.length none, .dslice i.dc i.dn none]
theorem imc_noLoc {i : Im} (h : i.ok) : dataB (imc i) := by
 have := Im.noLoc h
 simp only [Im.av, noLoc] at this
 exact noLocL_all this
def L49 (i : Im) (m : Nat) (fr : Fr) (H : Heap) : Prop := ∃ (k : Nat) (e : Int), k ≤ i.sg.length ∧ m = i.sg.length - k ∧ segB (i.p * 128) 0 i.sg = segB (i.p * 128) e (i.sg.drop k) ∧ 0 ≤ e ∧ e ≤ i.p * 128 ∧ fr = [(1, .ptr 0 0), (3, I (i.p * 128)), (4, I e), (39, .dslice (sgc i.sg) i.sg.length none), (40, I i.sg.length), (41, I k)] ∧ H = ⟨1, [(0, imc i)]⟩
theorem c49 (i : Im) (h : i.ok) : CallA Tryz.prog 49 [i.av] Heap.nil fun v H' => v = I i.chk ∧ H' = Heap.nil := by
 refine callA_of ok49 (Nat.le_of_ble_eq_true rfl) ?_
 have hp := h.p
 have he := h.e
 have hn := h.n
 by_cases h1 : i.p < 1 ∨ i.p > 64
 · repeat' ((conv => whnf); first | refine Branch.ofT rfl ?_ | refine Branch.ofF rfl ?_ | refine Branch.ofT (decide_eq_true (by omega)) ?_ | refine Branch.ofF (decide_eq_false (by omega)) ?_ | refine Branch.dec (fun h => ?_) (fun h => ?_) | refine Branch.negdec (fun h => ?_) (fun h => ?_) | refine Branch.neg (fun h => ?_) (fun h => ?_) | refine Branch.mk (fun h => ?_) (fun h => ?_) | (refine Side.mk ?_ ?_; · first | omega | decide) | (refine SideD.mk ?_ ?_; · first | omega | decide) | refine ⟨_, Nat.lt_succ_self _, To.refl (.inl ⟨rfl, ?_⟩)⟩ | (refine Side.mk ?_ ?_; · (simp; done)) | fail)
   all_goals (conv => whnf)
   all_goals (refine RetA.data rfl ⟨?_, rfl⟩; unfold Im.chk; rw [if_pos (by omega)]; rfl)
 · have h68 := c68 i.e i.p he (by omega)
   have hw : IntKind.i64.wrap (i.p * 128) = i.p * 128 := wrapI (by omega)
   cases hE : entB i.e i.p with
   | false =>
    rw [hE] at h68
    repeat' ((conv => whnf); first | refine Branch.ofT rfl ?_ | refine Branch.ofF rfl ?_ | refine Branch.ofT (decide_eq_true (by omega)) ?_ | refine Branch.ofF (decide_eq_false (by omega)) ?_ | refine Branch.dec (fun h => ?_) (fun h => ?_) | refine Branch.negdec (fun h => ?_) (fun h => ?_) | refine Branch.neg (fun h => ?_) (fun h => ?_) | refine Branch.mk (fun h => ?_) (fun h => ?_) | (refine Side.mk ?_ ?_; · first | omega | decide) | (refine SideD.mk ?_ ?_; · first | omega | decide) | refine ⟨_, Nat.lt_succ_self _, To.refl (.inl ⟨rfl, ?_⟩)⟩ | refine CallA.pure h68 rfl rfl ?_ | (refine Side.mk ?_ ?_; · (simp; done)) | fail)
    all_goals (conv => whnf)
    refine RetA.data rfl ⟨?_, rfl⟩; unfold Im.chk; rw [if_pos (by rw [hE]; simp)]; rfl
   | true =>
    rw [hE] at h68
    by_cases h2 : i.sg.length > 64 ∨ i.dn > 64
    · repeat' ((conv => whnf); first | refine Branch.ofT rfl ?_ | refine Branch.ofF rfl ?_ | refine Branch.ofT (decide_eq_true (by omega)) ?_ | refine Branch.ofF (decide_eq_false (by omega)) ?_ | refine Branch.dec (fun h => ?_) (fun h => ?_) | refine Branch.negdec (fun h => ?_) (fun h => ?_) | refine Branch.neg (fun h => ?_) (fun h => ?_) | refine Branch.mk (fun h => ?_) (fun h => ?_) | (refine Side.mk ?_ ?_; · first | omega | decide) | (refine SideD.mk ?_ ?_; · first | omega | decide) | refine ⟨_, Nat.lt_succ_self _, To.refl (.inl ⟨rfl, ?_⟩)⟩ | refine CallA.pure h68 rfl rfl ?_ | (refine Side.mk ?_ ?_; · (simp; done)) | fail)
      all_goals (conv => whnf)
      all_goals (refine RetA.data rfl ⟨?_, rfl⟩; unfold Im.chk; rw [if_neg (by rw [hE]; simp; omega), if_pos h2]; rfl)
    · repeat' ((conv => whnf); first | refine Branch.ofT rfl ?_ | refine Branch.ofF rfl ?_ | refine Branch.ofT (decide_eq_true (by omega)) ?_ | refine Branch.ofF (decide_eq_false (by omega)) ?_ | refine Branch.dec (fun h => ?_) (fun h => ?_) | refine Branch.negdec (fun h => ?_) (fun h => ?_) | refine Branch.neg (fun h => ?_) (fun h => ?_) | refine Branch.mk (fun h => ?_) (fun h => ?_) | (refine Side.mk ?_ ?_; · first | omega | decide) | (refine SideD.mk ?_ ?_; · first | omega | decide) | refine ⟨_, Nat.lt_succ_self _, To.refl (.inl ⟨rfl, ?_⟩)⟩ | refine CallA.pure h68 rfl rfl ?_ | (refine Side.mk ?_ ?_; · (simp; done)) | fail)
      all_goals (conv => whnf)
      have hch : i.chk = if segB (i.p * 128) 0 i.sg = true then 0 else 3 := by unfold Im.chk; rw [if_neg (by rw [hE]; simp; omega), if_neg h2]
      have hfr : ∀ z : Int, z = i.p * 128 → ([(1, .ptr 0 0), (3, I z), (4, I 0), (39, .dslice (sgc i.sg) i.sg.length none), (40, I i.sg.length), (41, I 0)] : Fr) = [(1, .ptr 0 0), (3, I (i.p * 128)), (4, I 0), (39, .dslice (sgc i.sg) i.sg.length none), (40, I i.sg.length), (41, I ((0 : Nat) : Int))] := by rintro _ rfl; rfl
      refine ⟨L49 i, i.sg.length, To.gc [(0, true)] [1, 3, 4, 39, 40, 41] rfl ⟨imc_noLoc h, trivial⟩ ⟨0, 0, by omega, by omega, by rw [List.drop_zero], by omega, by omega, hfr _ hw, rfl⟩, ?_⟩
      rintro m fr H ⟨k, e, hk, rfl, hs, he0, he1, rfl, rfl⟩
      by_cases hkl : k < i.sg.length
      · rw [segB_at hkl] at hs
        have ha := h.a _ (List.getElem_mem hkl)
        have hz := h.z _ (List.getElem_mem hkl)
        generalize hx : i.sg[k] = x at hs ha hz
        obtain ⟨a, s⟩ := x
        simp only at hs ha hz
        have h3 : ∀ b : Bool, b = true → segB (i.p * 128) 0 i.sg = (!b && segB (i.p * 128) (a + s.size) (i.sg.drop (k + 1))) → i.chk = 3 := by
         rintro _ rfl h; rw [hch, h]; rfl
        by_cases hs0 : s.size = 0
        · have hse := size0 hs0
          repeat' ((conv => whnf); first | refine Branch.ofT rfl ?_ | refine Branch.ofF rfl ?_ | refine Branch.ofT (decide_eq_true hse) ?_ | refine Branch.ofT (decide_eq_true (by omega)) ?_ | refine Branch.ofF (decide_eq_false (by omega)) ?_ | refine Branch.dec (fun h => ?_) (fun h => ?_) | refine Branch.negdec (fun h => ?_) (fun h => ?_) | refine Branch.neg (fun h => ?_) (fun h => ?_) | refine Branch.mk (fun h => ?_) (fun h => ?_) | (refine Side.mk ?_ ?_; · first | omega | decide) | (refine SideD.mk ?_ ?_; · first | omega | decide) | refine ⟨_, Nat.lt_succ_self _, To.refl (.inl ⟨rfl, ?_⟩)⟩ | refine tkp hkl hx (by omega) ?_ | (refine Side.mk ?_ ?_; · (simp; done)) | fail)
          all_goals (conv => whnf)
          exact RetA.data rfl ⟨by rw [h3 _ (by simp [hs0]) hs]; rfl, rfl⟩
        · have hse : ¬ s = ⟨#[]⟩ := fun e => hs0 (by rw [e]; rfl)
          by_cases h4 : a < e
          · repeat' ((conv => whnf); first | refine Branch.ofT rfl ?_ | refine Branch.ofF rfl ?_ | refine Branch.ofF (decide_eq_false hse) ?_ | refine Branch.ofT (decide_eq_true (by omega)) ?_ | refine Branch.ofF (decide_eq_false (by omega)) ?_ | refine Branch.dec (fun h => ?_) (fun h => ?_) | refine Branch.negdec (fun h => ?_) (fun h => ?_) | refine Branch.neg (fun h => ?_) (fun h => ?_) | refine Branch.mk (fun h => ?_) (fun h => ?_) | (refine Side.mk ?_ ?_; · first | omega | decide) | (refine SideD.mk ?_ ?_; · first | omega | decide) | refine ⟨_, Nat.lt_succ_self _, To.refl (.inl ⟨rfl, ?_⟩)⟩ | refine tkp hkl hx (by omega) ?_ | (refine Side.mk ?_ ?_; · (simp; done)) | fail)
            all_goals (conv => whnf)
            exact RetA.data rfl ⟨by rw [h3 _ (by simp [h4]) hs]; rfl, rfl⟩
          · by_cases h5 : a > i.p * 128
            · repeat' ((conv => whnf); first | refine Branch.ofT rfl ?_ | refine Branch.ofF rfl ?_ | refine Branch.ofF (decide_eq_false hse) ?_ | refine Branch.ofT (decide_eq_true (by omega)) ?_ | refine Branch.ofF (decide_eq_false (by omega)) ?_ | refine Branch.dec (fun h => ?_) (fun h => ?_) | refine Branch.negdec (fun h => ?_) (fun h => ?_) | refine Branch.neg (fun h => ?_) (fun h => ?_) | refine Branch.mk (fun h => ?_) (fun h => ?_) | (refine Side.mk ?_ ?_; · first | omega | decide) | (refine SideD.mk ?_ ?_; · first | omega | decide) | refine ⟨_, Nat.lt_succ_self _, To.refl (.inl ⟨rfl, ?_⟩)⟩ | refine tkp hkl hx (by omega) ?_ | (refine Side.mk ?_ ?_; · (simp; done)) | fail)
              all_goals (conv => whnf)
              exact RetA.data rfl ⟨by rw [h3 _ (by simp [h5]) hs]; rfl, rfl⟩
            · by_cases h6 : (s.size : Int) > i.p * 128 - a
              · repeat' ((conv => whnf); first | refine Branch.ofT rfl ?_ | refine Branch.ofF rfl ?_ | refine Branch.ofF (decide_eq_false hse) ?_ | refine Branch.ofT (decide_eq_true (by omega)) ?_ | refine Branch.ofF (decide_eq_false (by omega)) ?_ | refine Branch.dec (fun h => ?_) (fun h => ?_) | refine Branch.negdec (fun h => ?_) (fun h => ?_) | refine Branch.neg (fun h => ?_) (fun h => ?_) | refine Branch.mk (fun h => ?_) (fun h => ?_) | (refine Side.mk ?_ ?_; · first | omega | decide) | (refine SideD.mk ?_ ?_; · first | omega | decide) | refine ⟨_, Nat.lt_succ_self _, To.refl (.inl ⟨rfl, ?_⟩)⟩ | refine tkp hkl hx (by omega) ?_ | (refine Side.mk ?_ ?_; · (simp; done)) | fail)
                all_goals (conv => whnf)
                exact RetA.data rfl ⟨by rw [h3 _ (by simp [h6]) hs]; rfl, rfl⟩
              · repeat' ((conv => whnf); first | refine Branch.ofT rfl ?_ | refine Branch.ofF rfl ?_ | refine Branch.ofF (decide_eq_false hse) ?_ | refine Branch.ofT (decide_eq_true (by omega)) ?_ | refine Branch.ofF (decide_eq_false (by omega)) ?_ | refine Branch.dec (fun h => ?_) (fun h => ?_) | refine Branch.negdec (fun h => ?_) (fun h => ?_) | refine Branch.neg (fun h => ?_) (fun h => ?_) | refine Branch.mk (fun h => ?_) (fun h => ?_) | (refine Side.mk ?_ ?_; · first | omega | decide) | (refine SideD.mk ?_ ?_; · first | omega | decide) | refine ⟨_, Nat.lt_succ_self _, To.refl (.inl ⟨rfl, ?_⟩)⟩ | refine tkp hkl hx (by omega) ?_ | (refine Side.mk ?_ ?_; · (simp; done)) | fail)
                all_goals (conv => whnf)
                have hs' : segB (i.p * 128) 0 i.sg = segB (i.p * 128) (a + s.size) (i.sg.drop (k + 1)) := by
                 rw [hs]; simp [hs0, h4, h5]; omega
                exact ⟨i.sg.length - (k + 1), by omega, To.gc [(0, true)] [1, 3, 4, 39, 40, 41] rfl ⟨imc_noLoc h, trivial⟩ ⟨k + 1, a + s.size, by omega, rfl, hs', by omega, by omega, rfl, rfl⟩⟩
      · have hkl : k = i.sg.length := by omega
        subst hkl
        rw [List.drop_eq_nil_of_le (Nat.le_refl _)] at hs
        repeat' ((conv => whnf); first | refine Branch.ofT rfl ?_ | refine Branch.ofF rfl ?_ | refine Branch.ofT (decide_eq_true (by omega)) ?_ | refine Branch.ofF (decide_eq_false (by omega)) ?_ | refine Branch.dec (fun h => ?_) (fun h => ?_) | refine Branch.negdec (fun h => ?_) (fun h => ?_) | refine Branch.neg (fun h => ?_) (fun h => ?_) | refine Branch.mk (fun h => ?_) (fun h => ?_) | (refine Side.mk ?_ ?_; · first | omega | decide) | (refine SideD.mk ?_ ?_; · first | omega | decide) | refine ⟨_, Nat.lt_succ_self _, To.refl (.inl ⟨rfl, ?_⟩)⟩ | (refine Side.mk ?_ ?_; · (simp; done)) | fail)
        all_goals (conv => whnf)
        exact RetA.data rfl ⟨by rw [hch, hs]; rfl, rfl⟩
end Go.Proofs

namespace Go.Proofs
open Go Go.Eng
set_option maxRecDepth 100000
set_option maxHeartbeats 4000000

def L54 (i : Im) (m : Nat) (fr : Fr) (H : Heap) : Prop := ∃ (k : Nat) (e : Int), k ≤ i.sg.length ∧ m = i.sg.length - k ∧ segB (i.p * 128) 0 i.sg = segB (i.p * 128) e (i.sg.drop k) ∧ 0 ≤ e ∧ e ≤ i.p * 128 ∧ fr = [(1, .ptr 0 0), (3, I e), (4, I k)] ∧ H = ⟨1, [(0, imc i)]⟩
theorem c54 (i : Im) (h : i.ok) : CallA Tryz.prog 54 [i.av] Heap.nil fun v H' => v = I i.chk ∧ H' = Heap.nil := by
 refine callA_of ok54 (Nat.le_of_ble_eq_true rfl) ?_
 have hp := h.p
 have he := h.e
 have hn := h.n
 by_cases h1 : i.p < 1 ∨ i.p > 64
 · repeat' ((conv => whnf); first | refine Branch.ofT rfl ?_ | refine Branch.ofF rfl ?_ | refine Branch.ofT (decide_eq_true (by omega)) ?_ | refine Branch.ofF (decide_eq_false (by omega)) ?_ | refine Branch.dec (fun h => ?_) (fun h => ?_) | refine Branch.negdec (fun h => ?_) (fun h => ?_) | refine Branch.neg (fun h => ?_) (fun h => ?_) | refine Branch.mk (fun h => ?_) (fun h => ?_) | (refine Side.mk ?_ ?_; · first | omega | decide) | (refine SideD.mk ?_ ?_; · first | omega | decide) | refine ⟨_, Nat.lt_succ_self _, To.refl (.inl ⟨rfl, ?_⟩)⟩ | (refine Side.mk ?_ ?_; · (simp; done)) | fail)
   all_goals (conv => whnf)
   all_goals (refine RetA.data rfl ⟨?_, rfl⟩; unfold Im.chk; rw [if_pos (by omega)]; rfl)
 · have h72 := c72 i.e i.p he (by omega)
   have hw : IntKind.i64.wrap (i.p * 128) = i.p * 128 := wrapI (by omega)
   cases hE : entB i.e i.p with
   | false =>
    rw [hE] at h72
    repeat' ((conv => whnf); first | refine Branch.ofT rfl ?_ | refine Branch.ofF rfl ?_ | refine Branch.ofT (decide_eq_true (by omega)) ?_ | refine Branch.ofF (decide_eq_false (by omega)) ?_ | refine Branch.dec (fun h => ?_) (fun h => ?_) | refine Branch.negdec (fun h => ?_) (fun h => ?_) | refine Branch.neg (fun h => ?_) (fun h => ?_) | refine Branch.mk (fun h => ?_) (fun h => ?_) | (refine Side.mk ?_ ?_; · first | omega | decide) | (refine SideD.mk ?_ ?_; · first | omega | decide) | refine ⟨_, Nat.lt_succ_self _, To.refl (.inl ⟨rfl, ?_⟩)⟩ | refine CallA.pure h72 rfl rfl ?_ | (refine Side.mk ?_ ?_; · (simp; done)) | fail)
    all_goals (conv => whnf)
    refine RetA.data rfl ⟨?_, rfl⟩; unfold Im.chk; rw [if_pos (by rw [hE]; simp)]; rfl
   | true =>
    rw [hE] at h72
    by_cases h2 : i.sg.length > 64 ∨ i.dn > 64
    · repeat' ((conv => whnf); first | refine Branch.ofT rfl ?_ | refine Branch.ofF rfl ?_ | refine Branch.ofT (decide_eq_true (by omega)) ?_ | refine Branch.ofF (decide_eq_false (by omega)) ?_ | refine Branch.dec (fun h => ?_) (fun h => ?_) | refine Branch.negdec (fun h => ?_) (fun h => ?_) | refine Branch.neg (fun h => ?_) (fun h => ?_) | refine Branch.mk (fun h => ?_) (fun h => ?_) | (refine Side.mk ?_ ?_; · first | omega | decide) | (refine SideD.mk ?_ ?_; · first | omega | decide) | refine ⟨_, Nat.lt_succ_self _, To.refl (.inl ⟨rfl, ?_⟩)⟩ | refine CallA.pure h72 rfl rfl ?_ | (refine Side.mk ?_ ?_; · (simp; done)) | fail)
      all_goals (conv => whnf)
      all_goals (refine RetA.data rfl ⟨?_, rfl⟩; unfold Im.chk; rw [if_neg (by rw [hE]; simp; omega), if_pos h2]; rfl)
    · repeat' ((conv => whnf); first | refine Branch.ofT rfl ?_ | refine Branch.ofF rfl ?_ | refine Branch.ofT (decide_eq_true (by omega)) ?_ | refine Branch.ofF (decide_eq_false (by omega)) ?_ | refine Branch.dec (fun h => ?_) (fun h => ?_) | refine Branch.negdec (fun h => ?_) (fun h => ?_) | refine Branch.neg (fun h => ?_) (fun h => ?_) | refine Branch.mk (fun h => ?_) (fun h => ?_) | (refine Side.mk ?_ ?_; · first | omega | decide) | (refine SideD.mk ?_ ?_; · first | omega | decide) | refine ⟨_, Nat.lt_succ_self _, To.refl (.inl ⟨rfl, ?_⟩)⟩ | refine CallA.pure h72 rfl rfl ?_ | (refine Side.mk ?_ ?_; · (simp; done)) | fail)
      all_goals (conv => whnf)
      have hch : i.chk = if segB (i.p * 128) 0 i.sg = true then 0 else 3 := by unfold Im.chk; rw [if_neg (by rw [hE]; simp; omega), if_neg h2]
      refine ⟨L54 i, i.sg.length, To.gc [(0, true)] [1, 3, 4] rfl ⟨imc_noLoc h, trivial⟩ ⟨0, 0, by omega, by omega, by rw [List.drop_zero], by omega, by omega, rfl, rfl⟩, ?_⟩
      rintro m fr H ⟨k, e, hk, rfl, hs, he0, he1, rfl, rfl⟩
      by_cases hkl : k < i.sg.length
      · rw [segB_at hkl] at hs
        have ha := h.a _ (List.getElem_mem hkl)
        have hz := h.z _ (List.getElem_mem hkl)
        generalize hx : i.sg[k] = x at hs ha hz
        obtain ⟨a, s⟩ := x
        simp only at hs ha hz
        have h3 : ∀ b : Bool, b = true → segB (i.p * 128) 0 i.sg = (!b && segB (i.p * 128) (a + s.size) (i.sg.drop (k + 1))) → i.chk = 3 := by
         rintro _ rfl h; rw [hch, h]; rfl
        by_cases hs0 : s.size = 0
        · have hse := size0 hs0
          repeat' ((conv => whnf); first | refine Branch.ofT rfl ?_ | refine Branch.ofF rfl ?_ | refine Branch.ofT (decide_eq_true (by omega)) ?_ | refine Branch.ofT (decide_eq_true (by omega)) ?_ | refine Branch.ofF (decide_eq_false (by omega)) ?_ | refine Branch.dec (fun h => ?_) (fun h => ?_) | refine Branch.negdec (fun h => ?_) (fun h => ?_) | refine Branch.neg (fun h => ?_) (fun h => ?_) | refine Branch.mk (fun h => ?_) (fun h => ?_) | (refine Side.mk ?_ ?_; · first | omega | decide) | (refine SideD.mk ?_ ?_; · first | omega | decide) | refine ⟨_, Nat.lt_succ_self _, To.refl (.inl ⟨rfl, ?_⟩)⟩ | refine tkp hkl hx (by omega) ?_ | (refine Side.mk ?_ ?_; · (simp; done)) | fail)
          all_goals (conv => whnf)
          exact RetA.data rfl ⟨by rw [h3 _ (by simp [hs0]) hs]; rfl, rfl⟩
        · have hse : ¬ s = ⟨#[]⟩ := fun e => hs0 (by rw [e]; rfl)
          by_cases h4 : a < e
          · repeat' ((conv => whnf); first | refine Branch.ofT rfl ?_ | refine Branch.ofF rfl ?_ | refine Branch.ofF (decide_eq_false (by omega)) ?_ | refine Branch.ofT (decide_eq_true (by omega)) ?_ | refine Branch.ofF (decide_eq_false (by omega)) ?_ | refine Branch.dec (fun h => ?_) (fun h => ?_) | refine Branch.negdec (fun h => ?_) (fun h => ?_) | refine Branch.neg (fun h => ?_) (fun h => ?_) | refine Branch.mk (fun h => ?_) (fun h => ?_) | (refine Side.mk ?_ ?_; · first | omega | decide) | (refine SideD.mk ?_ ?_; · first | omega | decide) | refine ⟨_, Nat.lt_succ_self _, To.refl (.inl ⟨rfl, ?_⟩)⟩ | refine tkp hkl hx (by omega) ?_ | (refine Side.mk ?_ ?_; · (simp; done)) | fail)
            all_goals (conv => whnf)
            exact RetA.data rfl ⟨by rw [h3 _ (by simp [h4]) hs]; rfl, rfl⟩
          · by_cases h5 : a > i.p * 128
            · repeat' ((conv => whnf); first | refine Branch.ofT rfl ?_ | refine Branch.ofF rfl ?_ | refine Branch.ofF (decide_eq_false (by omega)) ?_ | refine Branch.ofT (decide_eq_true (by omega)) ?_ | refine Branch.ofF (decide_eq_false (by omega)) ?_ | refine Branch.dec (fun h => ?_) (fun h => ?_) | refine Branch.negdec (fun h => ?_) (fun h => ?_) | refine Branch.neg (fun h => ?_) (fun h => ?_) | refine Branch.mk (fun h => ?_) (fun h => ?_) | (refine Side.mk ?_ ?_; · first | omega | decide) | (refine SideD.mk ?_ ?_; · first | omega | decide) | refine ⟨_, Nat.lt_succ_self _, To.refl (.inl ⟨rfl, ?_⟩)⟩ | refine tkp hkl hx (by omega) ?_ | (refine Side.mk ?_ ?_; · (simp; done)) | fail)
              all_goals (conv => whnf)
              exact RetA.data rfl ⟨by rw [h3 _ (by simp [h5]) hs]; rfl, rfl⟩
            · by_cases h6 : (s.size : Int) > i.p * 128 - a
              · repeat' ((conv => whnf); first | refine Branch.ofT rfl ?_ | refine Branch.ofF rfl ?_ | refine Branch.ofF (decide_eq_false (by omega)) ?_ | refine Branch.ofT (decide_eq_true (by omega)) ?_ | refine Branch.ofF (decide_eq_false (by omega)) ?_ | refine Branch.dec (fun h => ?_) (fun h => ?_) | refine Branch.negdec (fun h => ?_) (fun h => ?_) | refine Branch.neg (fun h => ?_) (fun h => ?_) | refine Branch.mk (fun h => ?_) (fun h => ?_) | (refine Side.mk ?_ ?_; · first | omega | decide) | (refine SideD.mk ?_ ?_; · first | omega | decide) | refine ⟨_, Nat.lt_succ_self _, To.refl (.inl ⟨rfl, ?_⟩)⟩ | refine tkp hkl hx (by omega) ?_ | (refine Side.mk ?_ ?_; · (simp; done)) | fail)
                all_goals (conv => whnf)
                exact RetA.data rfl ⟨by rw [h3 _ (by simp [h6]) hs]; rfl, rfl⟩
              · repeat' ((conv => whnf); first | refine Branch.ofT rfl ?_ | refine Branch.ofF rfl ?_ | refine Branch.ofF (decide_eq_false (by omega)) ?_ | refine Branch.ofT (decide_eq_true (by omega)) ?_ | refine Branch.ofF (decide_eq_false (by omega)) ?_ | refine Branch.dec (fun h => ?_) (fun h => ?_) | refine Branch.negdec (fun h => ?_) (fun h => ?_) | refine Branch.neg (fun h => ?_) (fun h => ?_) | refine Branch.mk (fun h => ?_) (fun h => ?_) | (refine Side.mk ?_ ?_; · first | omega | decide) | (refine SideD.mk ?_ ?_; · first | omega | decide) | refine ⟨_, Nat.lt_succ_self _, To.refl (.inl ⟨rfl, ?_⟩)⟩ | refine tkp hkl hx (by omega) ?_ | (refine Side.mk ?_ ?_; · (simp; done)) | fail)
                all_goals (conv => whnf)
                have hs' : segB (i.p * 128) 0 i.sg = segB (i.p * 128) (a + s.size) (i.sg.drop (k + 1)) := by
                 rw [hs]; simp [hs0, h4, h5]; omega
                exact ⟨i.sg.length - (k + 1), by omega, To.gc [(0, true)] [1, 3, 4] rfl ⟨imc_noLoc h, trivial⟩ ⟨k + 1, a + s.size, by omega, rfl, hs', by omega, by omega, rfl, rfl⟩⟩
      · have hkl : k = i.sg.length := by omega
        subst hkl
        rw [List.drop_eq_nil_of_le (Nat.le_refl _)] at hs
        repeat' ((conv => whnf); first | refine Branch.ofT rfl ?_ | refine Branch.ofF rfl ?_ | refine Branch.ofT (decide_eq_true (by omega)) ?_ | refine Branch.ofF (decide_eq_false (by omega)) ?_ | refine Branch.dec (fun h => ?_) (fun h => ?_) | refine Branch.negdec (fun h => ?_) (fun h => ?_) | refine Branch.neg (fun h => ?_) (fun h => ?_) | refine Branch.mk (fun h => ?_) (fun h => ?_) | (refine Side.mk ?_ ?_; · first | omega | decide) | (refine SideD.mk ?_ ?_; · first | omega | decide) | refine ⟨_, Nat.lt_succ_self _, To.refl (.inl ⟨rfl, ?_⟩)⟩ | (refine Side.mk ?_ ?_; · (simp; done)) | fail)
        all_goals (conv => whnf)
        exact RetA.data rfl ⟨by rw [hch, hs]; rfl, rfl⟩
end Go.Proofs

namespace Go.Proofs
open Go Go.Eng
set_option maxRecDepth 100000
set_option maxHeartbeats 4000000

def cpuC (e : Int) (k : Nat) : List AV := [.int .u32 (IntKind.u32.wrap e), .int .u32 0, .int .u32 0, .int .u32 0, .int .u32 0, .int .u32 0, .int .u32 0, .int .u32 0, .int .u32 0, .int .u32 0, .int .u32 0, .int .u32 0, .int .u32 0, .int .u32 0, .int .u32 0, .int .u32 0, .int .u32 0, .int .u32 0, .int .u32 0, .int .u32 0, .int .u32 0, .int .u32 0, .int .u32 0, .int .u32 0, .int .u32 0, .int .u32 (k : Int), .bool false, .bool (Nat.blt 0 k), .bool false, .int .i64 0]
def cpus (e : Int) : Nat → List AV
 | 0 => []
 | k + 1 => cpus e k ++ cpuC e k
theorem cpus_noLoc (e : Int) : ∀ k, ∀ c ∈ cpus e k, noLoc c = true
 | 0, _, h => by cases h
 | k + 1, c, h => by
  rcases List.mem_append.1 h with h | h
  · exact cpus_noLoc e k c h
  · exact dat (l := cpuC e k) rfl c h
theorem c32e (i : Im) (n : Int) (h : i.ok) (hc : i.chk ≠ 0) : CallA Tryz.prog 32 [i.av, I n] Heap.nil fun v H' => v = .tuple [.nils, I i.chk] ∧ H' = Heap.nil := by
 refine callA_of ok32 (Nat.le_of_ble_eq_true rfl) ?_
 have h49 := c49 i h
 have hl := Im.noLoc h
 repeat' ((conv => whnf); first | refine Branch.ofT rfl ?_ | refine Branch.ofF rfl ?_ | refine Branch.negdec (fun _ => ?_) (fun hn => absurd hn hc) | refine Branch.dec (fun h => ?_) (fun h => ?_) | refine Branch.negdec (fun h => ?_) (fun h => ?_) | refine Branch.neg (fun h => ?_) (fun h => ?_) | refine Branch.mk (fun h => ?_) (fun h => ?_) | (refine Side.mk ?_ ?_; · first | omega | decide) | (refine SideD.mk ?_ ?_; · first | omega | decide) | refine ⟨_, Nat.lt_succ_self _, To.refl (.inl ⟨rfl, ?_⟩)⟩ | refine CallA.pure h49 (by simp [noLocL, hl]) rfl ?_ | (refine Side.mk ?_ ?_; · (simp; done)) | fail)
 all_goals (conv => whnf)
 exact RetA.data rfl ⟨rfl, rfl⟩
theorem c32n (i : Im) (n : Int) (h : i.ok) (hc : i.chk = 0) (hn : n < 1 ∨ n > 4) : CallA Tryz.prog 32 [i.av, I n] Heap.nil fun v H' => v = .tuple [.nils, I 1] ∧ H' = Heap.nil := by
 refine callA_of ok32 (Nat.le_of_ble_eq_true rfl) ?_
 have h49 := c49 i h
 rw [hc] at h49
 have hl := Im.noLoc h
 repeat' ((conv => whnf); first | refine Branch.ofT rfl ?_ | refine Branch.ofF rfl ?_ | refine Branch.ofT (decide_eq_true (by omega)) ?_ | refine Branch.ofF (decide_eq_false (by omega)) ?_ | refine Branch.dec (fun h => ?_) (fun h => ?_) | refine Branch.negdec (fun h => ?_) (fun h => ?_) | refine Branch.neg (fun h => ?_) (fun h => ?_) | refine Branch.mk (fun h => ?_) (fun h => ?_) | (refine Side.mk ?_ ?_; · first | omega | decide) | (refine SideD.mk ?_ ?_; · first | omega | decide) | refine ⟨_, Nat.lt_succ_self _, To.refl (.inl ⟨rfl, ?_⟩)⟩ | refine CallA.pure h49 (by simp [noLocL, hl]) rfl ?_ | (refine Side.mk ?_ ?_; · (simp; done)) | fail)
 all_goals (conv => whnf)
 all_goals exact RetA.data rfl ⟨rfl, rfl⟩
theorem c32 (i : Im) (n : Nat) (h : i.ok) (hc : i.chk = 0) (hn : n = 1 ∨ n = 2 ∨ n = 3 ∨ n = 4) : CallA Tryz.prog 32 [i.av, I n] Heap.nil fun v H' => v = .tuple [.dslice (cpus i.e n) n none, I 0] ∧ H' = Heap.nil := by
 refine callA_of ok32 (Nat.le_of_ble_eq_true rfl) ?_
 have h49 := c49 i h
 rw [hc] at h49
 have hl := Im.noLoc h
 rcases hn with rfl | rfl | rfl | rfl
 · repeat' ((conv => whnf); first | refine Branch.ofT rfl ?_ | refine Branch.ofF rfl ?_ | refine Branch.dec (fun h => ?_) (fun h => ?_) | refine Branch.negdec (fun h => ?_) (fun h => ?_) | refine Branch.neg (fun h => ?_) (fun h => ?_) | refine Branch.mk (fun h => ?_) (fun h => ?_) | (refine Side.mk ?_ ?_; · first | omega | decide) | (refine SideD.mk ?_ ?_; · first | omega | decide) | refine ⟨_, Nat.lt_succ_self _, To.refl (.inl ⟨rfl, ?_⟩)⟩ | refine CallA.pure h49 (by simp [noLocL, hl]) rfl ?_ | refine LoopA.unroll _ _ _ 5 ?_ | refine Side.mk ⟨by unfold fits; omega, by simp [scal]⟩ ?_ | refine Side.mk ⟨by rfl, by rfl, by rfl, by unfold fits; omega, by simp [scal]⟩ ?_ | (refine Side.mk ?_ ?_; · (simp; done)) | fail)
   all_goals (conv => whnf)
   exact RetA.pub 2 (ds := cpus i.e 1) (by rfl) (cpus_noLoc _ _) (RetA.data (noLocL_of (l := [.dslice (cpus i.e 1) 1 none, I 0]) (by simp [noLoc, noLocL_of (cpus_noLoc _ _)])) ⟨rfl, rfl⟩)
 · repeat' ((conv => whnf); first | refine Branch.ofT rfl ?_ | refine Branch.ofF rfl ?_ | refine Branch.dec (fun h => ?_) (fun h => ?_) | refine Branch.negdec (fun h => ?_) (fun h => ?_) | refine Branch.neg (fun h => ?_) (fun h => ?_) | refine Branch.mk (fun h => ?_) (fun h => ?_) | (refine Side.mk ?_ ?_; · first | omega | decide) | (refine SideD.mk ?_ ?_; · first | omega | decide) | refine ⟨_, Nat.lt_succ_self _, To.refl (.inl ⟨rfl, ?_⟩)⟩ | refine CallA.pure h49 (by simp [noLocL, hl]) rfl ?_ | refine LoopA.unroll _ _ _ 5 ?_ | refine Side.mk ⟨by unfold fits; omega, by simp [scal]⟩ ?_ | refine Side.mk ⟨by rfl, by rfl, by rfl, by unfold fits; omega, by simp [scal]⟩ ?_ | (refine Side.mk ?_ ?_; · (simp; done)) | fail)
   all_goals (conv => whnf)
   exact RetA.pub 4 (ds := cpus i.e 2) (by rfl) (cpus_noLoc _ _) (RetA.data (noLocL_of (l := [.dslice (cpus i.e 2) 2 none, I 0]) (by simp [noLoc, noLocL_of (cpus_noLoc _ _)])) ⟨rfl, rfl⟩)
 · repeat' ((conv => whnf); first | refine Branch.ofT rfl ?_ | refine Branch.ofF rfl ?_ | refine Branch.dec (fun h => ?_) (fun h => ?_) | refine Branch.negdec (fun h => ?_) (fun h => ?_) | refine Branch.neg (fun h => ?_) (fun h => ?_) | refine Branch.mk (fun h => ?_) (fun h => ?_) | (refine Side.mk ?_ ?_; · first | omega | decide) | (refine SideD.mk ?_ ?_; · first | omega | decide) | refine ⟨_, Nat.lt_succ_self _, To.refl (.inl ⟨rfl, ?_⟩)⟩ | refine CallA.pure h49 (by simp [noLocL, hl]) rfl ?_ | refine LoopA.unroll _ _ _ 5 ?_ | refine Side.mk ⟨by unfold fits; omega, by simp [scal]⟩ ?_ | refine Side.mk ⟨by rfl, by rfl, by rfl, by unfold fits; omega, by simp [scal]⟩ ?_ | (refine Side.mk ?_ ?_; · (simp; done)) | fail)
   all_goals (conv => whnf)
   exact RetA.pub 6 (ds := cpus i.e 3) (by rfl) (cpus_noLoc _ _) (RetA.data (noLocL_of (l := [.dslice (cpus i.e 3) 3 none, I 0]) (by simp [noLoc, noLocL_of (cpus_noLoc _ _)])) ⟨rfl, rfl⟩)
 · repeat' ((conv => whnf); first | refine Branch.ofT rfl ?_ | refine Branch.ofF rfl ?_ | refine Branch.dec (fun h => ?_) (fun h => ?_) | refine Branch.negdec (fun h => ?_) (fun h => ?_) | refine Branch.neg (fun h => ?_) (fun h => ?_) | refine Branch.mk (fun h => ?_) (fun h => ?_) | (refine Side.mk ?_ ?_; · first | omega | decide) | (refine SideD.mk ?_ ?_; · first | omega | decide) | refine ⟨_, Nat.lt_succ_self _, To.refl (.inl ⟨rfl, ?_⟩)⟩ | refine CallA.pure h49 (by simp [noLocL, hl]) rfl ?_ | refine LoopA.unroll _ _ _ 5 ?_ | refine Side.mk ⟨by unfold fits; omega, by simp [scal]⟩ ?_ | refine Side.mk ⟨by rfl, by rfl, by rfl, by unfold fits; omega, by simp [scal]⟩ ?_ | (refine Side.mk ?_ ?_; · (simp; done)) | fail)
   all_goals (conv => whnf)
   exact RetA.pub 8 (ds := cpus i.e 4) (by rfl) (cpus_noLoc _ _) (RetA.data (noLocL_of (l := [.dslice (cpus i.e 4) 4 none, I 0]) (by simp [noLoc, noLocL_of (cpus_noLoc _ _)])) ⟨rfl, rfl⟩)
theorem c35e (i : Im) (n : Int) (h : i.ok) (hc : i.chk ≠ 0) : CallA Tryz.prog 35 [i.av, I n] Heap.nil fun v H' => v = .agg [.nils, I i.chk] ∧ H' = Heap.nil := by
 refine callA_of ok35 (Nat.le_of_ble_eq_true rfl) ?_
 have h49 := c54 i h
 have hl := Im.noLoc h
 repeat' ((conv => whnf); first | refine Branch.ofT rfl ?_ | refine Branch.ofF rfl ?_ | refine Branch.negdec (fun _ => ?_) (fun hn => absurd hn hc) | refine Branch.dec (fun h => ?_) (fun h => ?_) | refine Branch.negdec (fun h => ?_) (fun h => ?_) | refine Branch.neg (fun h => ?_) (fun h => ?_) | refine Branch.mk (fun h => ?_) (fun h => ?_) | (refine Side.mk ?_ ?_; · first | omega | decide) | (refine SideD.mk ?_ ?_; · first | omega | decide) | refine ⟨_, Nat.lt_succ_self _, To.refl (.inl ⟨rfl, ?_⟩)⟩ | refine CallA.pure h49 (by simp [noLocL, hl]) rfl ?_ | (refine Side.mk ?_ ?_; · (simp; done)) | fail)
 all_goals (conv => whnf)
 exact RetA.data rfl ⟨rfl, rfl⟩
theorem c35n (i : Im) (n : Int) (h : i.ok) (hc : i.chk = 0) (hn : n < 1 ∨ n > 4) : CallA Tryz.prog 35 [i.av, I n] Heap.nil fun v H' => v = .agg [.nils, I 1] ∧ H' = Heap.nil := by
 refine callA_of ok35 (Nat.le_of_ble_eq_true rfl) ?_
 have h49 := c54 i h
 rw [hc] at h49
 have hl := Im.noLoc h
 repeat' ((conv => whnf); first | refine Branch.ofT rfl ?_ | refine Branch.ofF rfl ?_ | refine Branch.ofT (decide_eq_true (by omega)) ?_ | refine Branch.ofF (decide_eq_false (by omega)) ?_ | refine Branch.dec (fun h => ?_) (fun h => ?_) | refine Branch.negdec (fun h => ?_) (fun h => ?_) | refine Branch.neg (fun h => ?_) (fun h => ?_) | refine Branch.mk (fun h => ?_) (fun h => ?_) | (refine Side.mk ?_ ?_; · first | omega | decide) | (refine SideD.mk ?_ ?_; · first | omega | decide) | refine ⟨_, Nat.lt_succ_self _, To.refl (.inl ⟨rfl, ?_⟩)⟩ | refine CallA.pure h49 (by simp [noLocL, hl]) rfl ?_ | (refine Side.mk ?_ ?_; · (simp; done)) | fail)
 all_goals (conv => whnf)
 all_goals exact RetA.data rfl ⟨rfl, rfl⟩
theorem c35 (i : Im) (n : Nat) (h : i.ok) (hc : i.chk = 0) (hn : n = 1 ∨ n = 2 ∨ n = 3 ∨ n = 4) : CallA Tryz.prog 35 [i.av, I n] Heap.nil fun v H' => v = .agg [.dslice (cpus i.e n) n none, I 0] ∧ H' = Heap.nil := by
 refine callA_of ok35 (Nat.le_of_ble_eq_true rfl) ?_
 have h49 := c54 i h
 rw [hc] at h49
 have hl := Im.noLoc h
 rcases hn with rfl | rfl | rfl | rfl
 · repeat' ((conv => whnf); first | refine Branch.ofT rfl ?_ | refine Branch.ofF rfl ?_ | refine Branch.dec (fun h => ?_) (fun h => ?_) | refine Branch.negdec (fun h => ?_) (fun h => ?_) | refine Branch.neg (fun h => ?_) (fun h => ?_) | refine Branch.mk (fun h => ?_) (fun h => ?_) | (refine Side.mk ?_ ?_; · first | omega | decide) | (refine SideD.mk ?_ ?_; · first | omega | decide) | refine ⟨_, Nat.lt_succ_self _, To.refl (.inl ⟨rfl, ?_⟩)⟩ | refine CallA.pure h49 (by simp [noLocL, hl]) rfl ?_ | refine LoopA.unroll _ _ _ 5 ?_ | refine Side.mk ⟨by unfold fits; omega, by simp [scal]⟩ ?_ | refine Side.mk ⟨by rfl, by rfl, by rfl, by unfold fits; omega, by simp [scal]⟩ ?_ | (refine Side.mk ?_ ?_; · (simp; done)) | fail)
   all_goals (conv => whnf)
   exact RetA.pub 3 (ds := cpus i.e 1) (by rfl) (cpus_noLoc _ _) (RetA.data (noLocL_of (l := [.dslice (cpus i.e 1) 1 none, I 0]) (by simp [noLoc, noLocL_of (cpus_noLoc _ _)])) ⟨rfl, rfl⟩)
 · repeat' ((conv => whnf); first | refine Branch.ofT rfl ?_ | refine Branch.ofF rfl ?_ | refine Branch.dec (fun h => ?_) (fun h => ?_) | refine Branch.negdec (fun h => ?_) (fun h => ?_) | refine Branch.neg (fun h => ?_) (fun h => ?_) | refine Branch.mk (fun h => ?_) (fun h => ?_) | (refine Side.mk ?_ ?_; · first | omega | decide) | (refine SideD.mk ?_ ?_; · first | omega | decide) | refine ⟨_, Nat.lt_succ_self _, To.refl (.inl ⟨rfl, ?_⟩)⟩ | refine CallA.pure h49 (by simp [noLocL, hl]) rfl ?_ | refine LoopA.unroll _ _ _ 5 ?_ | refine Side.mk ⟨by unfold fits; omega, by simp [scal]⟩ ?_ | refine Side.mk ⟨by rfl, by rfl, by rfl, by unfold fits; omega, by simp [scal]⟩ ?_ | (refine Side.mk ?_ ?_; · (simp; done)) | fail)
   all_goals (conv => whnf)
   exact RetA.pub 5 (ds := cpus i.e 2) (by rfl) (cpus_noLoc _ _) (RetA.data (noLocL_of (l := [.dslice (cpus i.e 2) 2 none, I 0]) (by simp [noLoc, noLocL_of (cpus_noLoc _ _)])) ⟨rfl, rfl⟩)
 · repeat' ((conv => whnf); first | refine Branch.ofT rfl ?_ | refine Branch.ofF rfl ?_ | refine Branch.dec (fun h => ?_) (fun h => ?_) | refine Branch.negdec (fun h => ?_) (fun h => ?_) | refine Branch.neg (fun h => ?_) (fun h => ?_) | refine Branch.mk (fun h => ?_) (fun h => ?_) | (refine Side.mk ?_ ?_; · first | omega | decide) | (refine SideD.mk ?_ ?_; · first | omega | decide) | refine ⟨_, Nat.lt_succ_self _, To.refl (.inl ⟨rfl, ?_⟩)⟩ | refine CallA.pure h49 (by simp [noLocL, hl]) rfl ?_ | refine LoopA.unroll _ _ _ 5 ?_ | refine Side.mk ⟨by unfold fits; omega, by simp [scal]⟩ ?_ | refine Side.mk ⟨by rfl, by rfl, by rfl, by unfold fits; omega, by simp [scal]⟩ ?_ | (refine Side.mk ?_ ?_; · (simp; done)) | fail)
   all_goals (conv => whnf)
   exact RetA.pub 7 (ds := cpus i.e 3) (by rfl) (cpus_noLoc _ _) (RetA.data (noLocL_of (l := [.dslice (cpus i.e 3) 3 none, I 0]) (by simp [noLoc, noLocL_of (cpus_noLoc _ _)])) ⟨rfl, rfl⟩)
 · repeat' ((conv => whnf); first | refine Branch.ofT rfl ?_ | refine Branch.ofF rfl ?_ | refine Branch.dec (fun h => ?_) (fun h => ?_) | refine Branch.negdec (fun h => ?_) (fun h => ?_) | refine Branch.neg (fun h => ?_) (fun h => ?_) | refine Branch.mk (fun h => ?_) (fun h => ?_) | (refine Side.mk ?_ ?_; · first | omega | decide) | (refine SideD.mk ?_ ?_; · first | omega | decide) | refine ⟨_, Nat.lt_succ_self _, To.refl (.inl ⟨rfl, ?_⟩)⟩ | refine CallA.pure h49 (by simp [noLocL, hl]) rfl ?_ | refine LoopA.unroll _ _ _ 5 ?_ | refine Side.mk ⟨by unfold fits; omega, by simp [scal]⟩ ?_ | refine Side.mk ⟨by rfl, by rfl, by rfl, by unfold fits; omega, by simp [scal]⟩ ?_ | (refine Side.mk ?_ ?_; · (simp; done)) | fail)
   all_goals (conv => whnf)
   exact RetA.pub 9 (ds := cpus i.e 4) (by rfl) (cpus_noLoc _ _) (RetA.data (noLocL_of (l := [.dslice (cpus i.e 4) 4 none, I 0]) (by simp [noLoc, noLocL_of (cpus_noLoc _ _)])) ⟨rfl, rfl⟩)
end Go.Proofs

namespace Go.Proofs
open Go Go.Eng
set_option maxRecDepth 100000
set_option maxHeartbeats 4000000

theorem dat_bs (bs : List Nat) : ∀ c ∈ bs.map B, noLoc c = true := by
 intro c h; obtain ⟨x, _, rfl⟩ := List.mem_map.1 h; rfl
theorem scal_bs (bs : List Nat) : ∀ c ∈ bs.map B, scal c = true := by
 intro c h; obtain ⟨x, _, rfl⟩ := List.mem_map.1 h; rfl
theorem noLocL_bs (bs : List Nat) : noLocL (bs.map B) = true := noLocL_of (dat_bs bs)
theorem c69 (cs : List AV) (p : Nat) (cap : Option Nat) (hp : p ≤ 64) (hc : noLocL cs = true) : CallA Tryz.prog 69 [.agg [.dslice cs p cap]] Heap.nil fun v H' => v = I ((p : Int) * 128) ∧ H' = Heap.nil := by
 refine callA_of ok69 (Nat.le_of_ble_eq_true rfl) ?_
 repeat' ((conv => whnf); first | refine Branch.ofT rfl ?_ | refine Branch.ofF rfl ?_ | refine Branch.dec (fun h => ?_) (fun h => ?_) | refine Branch.negdec (fun h => ?_) (fun h => ?_) | refine Branch.neg (fun h => ?_) (fun h => ?_) | refine Branch.mk (fun h => ?_) (fun h => ?_) | (refine Side.mk ?_ ?_; · first | omega | decide) | (refine SideD.mk ?_ ?_; · first | omega | decide) | refine ⟨_, Nat.lt_succ_self _, To.refl (.inl ⟨rfl, ?_⟩)⟩ | (refine Side.mk ?_ ?_; · (simp; done)) | fail)
 all_goals (conv => whnf)
 exact RetA.data rfl ⟨rfl, rfl⟩
theorem c74 (cs : List AV) (p : Nat) (cap : Option Nat) (hp : p ≤ 64) (hc : noLocL cs = true) : CallA Tryz.prog 74 [.agg [.dslice cs p cap]] Heap.nil fun v H' => v = I ((p : Int) * 128) ∧ H' = Heap.nil := by
 refine callA_of ok74 (Nat.le_of_ble_eq_true rfl) ?_
 repeat' ((conv => whnf); first | refine Branch.ofT rfl ?_ | refine Branch.ofF rfl ?_ | refine Branch.dec (fun h => ?_) (fun h => ?_) | refine Branch.negdec (fun h => ?_) (fun h => ?_) | refine Branch.neg (fun h => ?_) (fun h => ?_) | refine Branch.mk (fun h => ?_) (fun h => ?_) | (refine Side.mk ?_ ?_; · first | omega | decide) | (refine SideD.mk ?_ ?_; · first | omega | decide) | refine ⟨_, Nat.lt_succ_self _, To.refl (.inl ⟨rfl, ?_⟩)⟩ | (refine Side.mk ?_ ?_; · (simp; done)) | fail)
 all_goals (conv => whnf)
 exact RetA.data rfl ⟨rfl, rfl⟩
theorem app128 {a : List AV} {n : Nat} {ds : List AV} {m : Nat} (h : a.length = n * 128) (hf : n + m ≤ 1000) (hs : ∀ c ∈ ds, scal c = true) : 128 = 128 ∧ 0 = 0 ∧ a.length = n * 128 ∧ fits (n + m) 128 ∧ ∀ c ∈ ds, scal c = true :=
 ⟨rfl, rfl, h, by unfold fits; omega, hs⟩
theorem c70 (M : List Nat) (p : Nat) (cap : Option Nat) (hp : 1 ≤ p ∧ p ≤ 64) (hM : M.length = p * 128) : CallA Tryz.prog 70 [.dslice (M.map B) p cap] Heap.nil fun v H' => v = .slice 0 0 p none 128 ∧ H' = ⟨1, [(0, .cells (M.map B))]⟩ := by
 refine callA_of ok70 (Nat.le_of_ble_eq_true rfl) ?_
 have ht : List.take (p * 128) (M.map B) = M.map B := List.take_of_length_le (by simp [hM])
 have h0 : ∀ n : Nat, n = p → ([.slice 0 0 n none 128] : List AV) = [.slice 0 0 p none 128] := by rintro _ rfl; rfl
 repeat' ((conv => whnf); first | refine Branch.ofT rfl ?_ | refine Branch.ofF rfl ?_ | refine Branch.dec (fun h => ?_) (fun h => ?_) | refine Branch.negdec (fun h => ?_) (fun h => ?_) | refine Branch.neg (fun h => ?_) (fun h => ?_) | refine Branch.mk (fun h => ?_) (fun h => ?_) | (refine Side.mk ?_ ?_; · first | omega | decide) | (refine SideD.mk ?_ ?_; · first | omega | decide) | refine ⟨_, Nat.lt_succ_self _, To.refl (.inl ⟨rfl, ?_⟩)⟩ | refine Unk.mk (fun h => absurd h (by omega)) ?_ | refine Side.mk (app128 (by rfl) (by omega) (by rw [ht]; exact scal_bs M)) ?_ | refine Side.mk (by rw [List.length_map]; omega) ?_ | (refine Side.mk ?_ ?_; · (simp; done)) | fail)
 all_goals (conv => whnf)
 have e : rep [B 0] 0 ++ List.take (p * 128) (M.map B) = M.map B := by rw [ht]; rfl
 refine RetA.gc [(1, true)] rfl ⟨(show ∀ c ∈ rep [B 0] 0 ++ List.take (p * 128) (M.map B), noLoc c = true by rw [e]; exact dat_bs M), trivial⟩ ⟨?_, ?_⟩
 · show AV.slice 0 0 (0 + p) none 128 = _
   rw [Nat.zero_add]
 · show (⟨1, [(0, .cells (rep [B 0] 0 ++ List.take (p * 128) (M.map B)))]⟩ : Heap) = _
   rw [e]
theorem c75 (M : List Nat) (p : Nat) (cap : Option Nat) (hp : 1 ≤ p ∧ p ≤ 64) (hM : M.length = p * 128) : CallA Tryz.prog 75 [.agg [.dslice (M.map B) p cap]] Heap.nil fun v H' => v = .agg [.slice 0 0 p none 128] ∧ H' = ⟨1, [(0, .cells (M.map B))]⟩ := by
 refine callA_of ok75 (Nat.le_of_ble_eq_true rfl) ?_
 have ht : List.take (p * 128) (M.map B) = M.map B := List.take_of_length_le (by simp [hM])
 repeat' ((conv => whnf); first | refine Branch.ofT rfl ?_ | refine Branch.ofF rfl ?_ | refine Branch.dec (fun h => ?_) (fun h => ?_) | refine Branch.negdec (fun h => ?_) (fun h => ?_) | refine Branch.neg (fun h => ?_) (fun h => ?_) | refine Branch.mk (fun h => ?_) (fun h => ?_) | (refine Side.mk ?_ ?_; · first | omega | decide) | (refine SideD.mk ?_ ?_; · first | omega | decide) | refine ⟨_, Nat.lt_succ_self _, To.refl (.inl ⟨rfl, ?_⟩)⟩ | refine Side.mk (app128 (by rfl) (by omega) (by rw [ht]; exact scal_bs M)) ?_ | refine Side.mk (by rw [List.length_map]; omega) ?_ | (refine Side.mk ?_ ?_; · (simp; done)) | fail)
 all_goals (conv => whnf)
 have e : rep [B 0] 0 ++ List.take (p * 128) (M.map B) = M.map B := by rw [ht]; rfl
 refine RetA.gc [(3, true)] rfl ⟨(show ∀ c ∈ rep [B 0] 0 ++ List.take (p * 128) (M.map B), noLoc c = true by rw [e]; exact dat_bs M), trivial⟩ ⟨?_, ?_⟩
 · show AV.agg [AV.slice 0 0 (0 + p) none 128] = _
   rw [Nat.zero_add]
 · show (⟨1, [(0, .cells (rep [B 0] 0 ++ List.take (p * 128) (M.map B)))]⟩ : Heap) = _
   rw [e]
def wr (M : List Nat) (a : Nat) (bs : List Nat) : List Nat := M.take a ++ bs ++ M.drop (a + bs.length)
theorem wr_len {M bs : List Nat} {a : Nat} (h : a + bs.length ≤ M.length) : (wr M a bs).length = M.length := by
 simp [wr]; omega
theorem wr_nil {M : List Nat} {a : Nat} : wr M a [] = M := by simp [wr]
theorem wr_step {M bs : List Nat} {a j c : Nat} (h : a + bs.length ≤ M.length) (hj : j + c ≤ bs.length) {K : List AV → Prop} {off : Nat} {ds : List AV} (ho : off = a + j) (hd : ds = ((bs.drop j).take c).map B) (hk : K ((wr M a (bs.take (j + c))).map B)) : lputK ((wr M a (bs.take j)).map B) off ds K := by
 subst ho hd
 have hl1 : (bs.take j).length = j := by rw [List.length_take]; omega
 have hlw : (wr M a (bs.take j)).length = M.length := wr_len (by omega)
 have hlc : ((bs.drop j).take c).length = c := by rw [List.length_take, List.length_drop]; omega
 refine lputK_eq (by rw [List.length_map, List.length_map, hlw, hlc]; omega) (by rw [List.all_eq_true]; exact scal_bs _) ?_
 have e : wr M a (bs.take (j + c)) = (wr M a (bs.take j)).take (a + j) ++ (bs.drop j).take c ++ (wr M a (bs.take j)).drop (a + j + c) := by
  have hta : (M.take a).length = a := by rw [List.length_take]; omega
  have hL : (M.take a ++ bs.take j).length = a + j := by rw [List.length_append, hta, hl1]
  have e1 : (wr M a (bs.take j)).take (a + j) = M.take a ++ bs.take j := by
   unfold wr; exact List.take_left' hL
  have e2 : (wr M a (bs.take j)).drop (a + j + c) = M.drop (a + j + c) := by
   unfold wr
   rw [List.drop_append, List.drop_eq_nil_of_le (by omega), List.nil_append, List.drop_drop, hL, hl1]
   congr 1; omega
  rw [e1, e2]
  unfold wr
  rw [List.length_take, Nat.min_eq_left hj, List.take_add]
  simp [Nat.add_assoc]
 rw [e, List.map_append, List.map_append, List.map_take, List.map_drop] at hk
 rw [List.length_map, hlc]
 exact hk
end Go.Proofs

namespace Go.Proofs
open Go Go.Eng
set_option maxRecDepth 100000
set_option maxHeartbeats 4000000

def src71 (n j : Nat) : AV := if j = n then .dslice [] 0 none else .slice 1 j (n - j) none 1
def L71 (M bs : List Nat) (p a n : Nat) (m : Nat) (fr : Fr) (H : Heap) : Prop := ∃ j : Nat, j ≤ n ∧ m = n - j ∧ fr = [(1, I ((a + j : Nat) : Int)), (2, src71 n j), (3, .ptr 2 0)] ∧ H = ⟨3, [(0, .cells ((wr M a (bs.take j)).map B)), (1, .cells (bs.map B)), (2, .cells [.slice 0 0 p none 128])]⟩
theorem c71 (M bs : List Nat) (p a n : Nat) (hp : p ≤ 64) (hM : M.length = p * 128) (hn : bs.length = n) (hn0 : 0 < n) (ha : a + n ≤ p * 128) : CallA Tryz.prog 71 [.agg [.slice 0 0 p none 128], I a, .slice 1 0 n none 1] ⟨2, [(0, .cells (M.map B)), (1, .cells (bs.map B))]⟩ fun v H' => v = .tuple [] ∧ H' = ⟨2, [(0, .cells ((wr M a bs).map B)), (1, .cells (bs.map B))]⟩ := by
 refine callA_of ok71 (Nat.le_of_ble_eq_true rfl) ?_
 have s0 : src71 n 0 = .slice 1 0 n none 1 := by unfold src71; rw [if_neg (by omega)]; rfl
 repeat' ((conv => whnf); first | refine Branch.ofT rfl ?_ | refine Branch.ofF rfl ?_ | refine Branch.dec (fun h => ?_) (fun h => ?_) | refine Branch.negdec (fun h => ?_) (fun h => ?_) | refine Branch.neg (fun h => ?_) (fun h => ?_) | refine Branch.mk (fun h => ?_) (fun h => ?_) | (refine Side.mk ?_ ?_; · first | omega | decide) | (refine SideD.mk ?_ ?_; · first | omega | decide) | refine ⟨_, Nat.lt_succ_self _, To.refl (.inl ⟨rfl, ?_⟩)⟩ | (refine Side.mk ?_ ?_; · (simp; done)) | fail)
 all_goals (conv => whnf)
 refine ⟨L71 M bs p a n, n, To.gc [(0, true), (1, true), (2, false)] [1, 2, 3] rfl ⟨dat_bs _, dat_bs _, trivial⟩ ⟨0, by omega, by omega, by rw [s0]; rfl, by rw [List.take_zero, wr_nil]; rfl⟩, ?_⟩
 rintro m fr H ⟨j, hj, rfl, rfl, rfl⟩
 by_cases hjn : j < n
 · have hs : src71 n j = .slice 1 j (n - j) none 1 := by unfold src71; rw [if_neg (by omega)]
   rw [hs]
   have hlw : (wr M a (bs.take j)).length = p * 128 := by rw [wr_len (by rw [List.length_take]; omega), hM]
   have hd : ∀ d k k', d = j → k' = k → List.take k' (List.drop d (bs.map B)) = ((bs.drop j).take k).map B := by
    rintro _ k _ rfl rfl; rw [List.map_take, List.map_drop]
   have hd2 : ∀ d k k' k'', d = j → k' = k → k ≤ k'' → List.take k' (List.take k'' (List.drop d (bs.map B))) = ((bs.drop j).take k).map B := by
    rintro _ k _ k'' rfl rfl hk; rw [List.take_take, Nat.min_eq_left hk, List.map_take, List.map_drop]
   have hfr : ∀ (x : Int) (y : AV) (j' : Nat), x = ((a + j' : Nat) : Int) → y = src71 n j' → ([(1, I x), (2, y), (3, .ptr 2 0)] : Fr) = [(1, I ((a + j' : Nat) : Int)), (2, src71 n j'), (3, .ptr 2 0)] := by
    rintro _ _ j' rfl rfl; rfl
   by_cases hc : n - j ≤ 128 - (a + j) % 128
   · have hs2 : src71 n (j + (n - j)) = .dslice [] 0 none := by unfold src71; rw [if_pos (by omega)]
     repeat' ((conv => whnf); first | refine Branch.ofT rfl ?_ | refine Branch.ofF rfl ?_ | refine Or.inl (Side.mk (by omega) ?_) | refine Or.inr (Side.mk (by omega) ?_) | refine Branch.ofT (decide_eq_true (by omega)) ?_ | refine Branch.ofF (decide_eq_false (by omega)) ?_ | refine Branch.dec (fun h => ?_) (fun h => ?_) | refine Branch.negdec (fun h => ?_) (fun h => ?_) | refine Branch.neg (fun h => ?_) (fun h => ?_) | refine Branch.mk (fun h => ?_) (fun h => ?_) | (refine Side.mk ?_ ?_; · first | omega | decide) | (refine SideD.mk ?_ ?_; · first | omega | decide) | refine ⟨_, Nat.lt_succ_self _, To.refl (.inl ⟨rfl, ?_⟩)⟩ | refine wr_step (bs := bs) (j := j) (c := n - j) (by omega) (by omega) (by omega) (hd _ _ _ (by omega) (by omega)) ?_ | refine Side.mk (by rw [List.length_map]; omega) ?_ | (refine Side.mk ?_ ?_; · (simp; done)) | fail)
     all_goals (conv => whnf)
     exact ⟨n - (j + (n - j)), by omega, To.gc [(0, true), (1, true), (2, false)] [1, 2, 3] rfl ⟨dat_bs _, dat_bs _, trivial⟩ ⟨j + (n - j), by omega, rfl, hfr _ _ (j + (n - j)) (by omega) (by rw [hs2]; rfl), rfl⟩⟩
   · have hs2 : src71 n (j + (128 - (a + j) % 128)) = .slice 1 (j + (128 - (a + j) % 128)) (n - (j + (128 - (a + j) % 128))) none 1 := by unfold src71; rw [if_neg (by omega)]
     have hsl : ∀ x y : Nat, x = j + (128 - (a + j) % 128) → y = n - (j + (128 - (a + j) % 128)) → AV.slice 1 x y none 1 = src71 n (j + (128 - (a + j) % 128)) := by
      rintro _ _ rfl rfl; exact hs2.symm
     repeat' ((conv => whnf); first | refine Branch.ofT rfl ?_ | refine Branch.ofF rfl ?_ | refine Or.inl (Side.mk (by omega) ?_) | refine Or.inr (Side.mk (by omega) ?_) | refine Branch.ofT (decide_eq_true (by omega)) ?_ | refine Branch.ofF (decide_eq_false (by omega)) ?_ | refine Branch.dec (fun h => ?_) (fun h => ?_) | refine Branch.negdec (fun h => ?_) (fun h => ?_) | refine Branch.neg (fun h => ?_) (fun h => ?_) | refine Branch.mk (fun h => ?_) (fun h => ?_) | (refine Side.mk ?_ ?_; · first | omega | decide) | (refine SideD.mk ?_ ?_; · first | omega | decide) | refine ⟨_, Nat.lt_succ_self _, To.refl (.inl ⟨rfl, ?_⟩)⟩ | refine wr_step (bs := bs) (j := j) (c := 128 - (a + j) % 128) (by omega) (by omega) (by omega) (hd2 _ _ _ _ (by omega) (by omega) (by omega)) ?_ | refine Side.mk (by rw [List.length_map]; omega) ?_ | (refine Side.mk ?_ ?_; · (simp; done)) | fail)
     all_goals (conv => whnf)
     exact ⟨n - (j + (128 - (a + j) % 128)), by omega, To.gc [(0, true), (1, true), (2, false)] [1, 2, 3] rfl ⟨dat_bs _, dat_bs _, trivial⟩ ⟨j + (128 - (a + j) % 128), by omega, rfl, hfr _ _ (j + (128 - (a + j) % 128)) (by omega) (hsl _ _ (by omega) (by omega)), rfl⟩⟩
 · have hjn : j = n := by omega
   have hs : src71 n j = .dslice [] 0 none := by unfold src71; rw [if_pos hjn]
   rw [hs, List.take_of_length_le (by omega)]
   repeat' ((conv => whnf); first | refine Branch.ofT rfl ?_ | refine Branch.ofF rfl ?_ | refine Branch.ofT (decide_eq_true (by omega)) ?_ | refine Branch.ofF (decide_eq_false (by omega)) ?_ | refine Branch.dec (fun h => ?_) (fun h => ?_) | refine Branch.negdec (fun h => ?_) (fun h => ?_) | refine Branch.neg (fun h => ?_) (fun h => ?_) | refine Branch.mk (fun h => ?_) (fun h => ?_) | (refine Side.mk ?_ ?_; · first | omega | decide) | (refine SideD.mk ?_ ?_; · first | omega | decide) | refine ⟨_, Nat.lt_succ_self _, To.refl (.inl ⟨rfl, ?_⟩)⟩ | (refine Side.mk ?_ ?_; · (simp; done)) | fail)
   all_goals (conv => whnf)
   exact RetA.gc [(0, true), (1, true)] rfl ⟨dat_bs _, dat_bs _, trivial⟩ ⟨rfl, rfl⟩
end Go.Proofs

namespace Go.Proofs
open Go Go.Eng
set_option maxRecDepth 100000
set_option maxHeartbeats 4000000
theorem lentOk_nl (η : Nat → AB) : ∀ n, lentOk [] η n = true
 | 0 => rfl
 | n + 1 => by
  rw [lentOk_succ]
  split
  · exact lentOk_nl η n
  · exact lentOk_nl η n
theorem _root_.Go.Eng.CallA.ownE {P : Program} {f : FuncId} {args : List AV} {cs : List AV} {n e : Nat} (h : CallA P f args Heap.nil fun v H' => v = .slice 0 0 n none e ∧ H' = ⟨1, [(0, .cells cs)]⟩) (ha : renL (posOf []) args = args) (hc : noLocL cs = true) {H : Heap} {K : AV → Heap → Prop} (hk : K (.slice H.nx 0 n none e) ⟨H.nx + 1, (H.nx, .cells cs) :: H.bs⟩) : CallA P f args H K := by
 refine CallA.lend [] (by rw [ha]; exact h) rfl trivial rfl ?_ (lentOk_nl _ _)
 rintro c H' ⟨rfl, rfl⟩
 refine ⟨trivial, ?_⟩
 have e : lendH [] H ⟨1, [(0, .cells cs)]⟩ = ⟨H.nx + 1, (H.nx, .cells (renL (fun j => some (backK [] H.nx j)) cs)) :: H.bs⟩ := rfl
 rw [e, renL_data _ _ hc]
 exact hk
theorem _root_.Go.Eng.CallA.ownA {P : Program} {f : FuncId} {args : List AV} {cs : List AV} {n e : Nat} (h : CallA P f args Heap.nil fun v H' => v = .agg [.slice 0 0 n none e] ∧ H' = ⟨1, [(0, .cells cs)]⟩) (ha : renL (posOf []) args = args) (hc : noLocL cs = true) {H : Heap} {K : AV → Heap → Prop} (hk : K (.agg [.slice H.nx 0 n none e]) ⟨H.nx + 1, (H.nx, .cells cs) :: H.bs⟩) : CallA P f args H K := by
 refine CallA.lend [] (by rw [ha]; exact h) rfl trivial rfl ?_ (lentOk_nl _ _)
 rintro c H' ⟨rfl, rfl⟩
 refine ⟨trivial, ?_⟩
 have e : lendH [] H ⟨1, [(0, .cells cs)]⟩ = ⟨H.nx + 1, (H.nx, .cells (renL (fun j => some (backK [] H.nx j)) cs)) :: H.bs⟩ := rfl
 rw [e, renL_data _ _ hc]
 exact hk
def btOf (s : ByteArray) : List Nat := s.data.toList.map fun x => x.toNat
theorem btOf_len (s : ByteArray) : (btOf s).length = s.size := by
 obtain ⟨⟨l⟩⟩ := s
 simp [btOf, ByteArray.size]
theorem btOf_cells (s : ByteArray) : strCells s = (btOf s).map B := by
 unfold strCells btOf; rw [List.map_map]; rfl
theorem c51 (M : List Nat) (p a : Nat) (cap : Option Nat) (s : ByteArray) (hp : 1 ≤ p ∧ p ≤ 64) (hM : M.length = p * 128) (hs : 0 < s.size) (ha : a + s.size ≤ p * 128) : CallA Tryz.prog 51 [.agg [.dslice (M.map B) p cap], I a, .str s] Heap.nil fun v H' => v = .tuple [.agg [.dslice ((wr M a (btOf s)).map B) p none], .bool true] ∧ H' = Heap.nil := by
 refine callA_of ok51 (Nat.le_of_ble_eq_true rfl) ?_
 have h69 := c69 (M.map B) p cap hp.2 (noLocL_bs M)
 have h70 := c70 M p cap hp hM
 have h71 := c71 M (btOf s) p a s.size hp.2 hM (btOf_len s) hs ha
 have hlw : (wr M a (btOf s)).length = p * 128 := by rw [wr_len (by rw [btOf_len]; omega), hM]
 have na : noLocL [.agg [.dslice (M.map B) p cap]] = true := by simp [noLocL, noLoc, noLocL_bs]
 rw [← btOf_cells] at h71
 have ds : ∀ c ∈ strCells s, noLoc c = true := by rw [btOf_cells]; exact dat_bs _
 generalize wr M a (btOf s) = M' at *
 repeat' ((conv => whnf); first | refine Branch.ofT rfl ?_ | refine Branch.ofF rfl ?_ | refine Branch.ofT (decide_eq_true (by omega)) ?_ | refine Branch.ofF (decide_eq_false (by omega)) ?_ | refine Branch.dec (fun h => ?_) (fun h => ?_) | refine Branch.negdec (fun h => ?_) (fun h => ?_) | refine Branch.neg (fun h => ?_) (fun h => ?_) | refine Branch.mk (fun h => ?_) (fun h => ?_) | (refine Side.mk ?_ ?_; · first | omega | decide) | (refine SideD.mk ?_ ?_; · first | omega | decide) | refine ⟨_, Nat.lt_succ_self _, To.refl (.inl ⟨rfl, ?_⟩)⟩ | refine CallA.pure h69 na rfl ?_ | refine CallA.ownE h70 rfl (noLocL_bs M) ?_ | (refine CallA.lend [(2, true), (4, true)] h71 rfl ⟨dat_bs _, ds, trivial⟩ rfl ?_; rintro c H' ⟨rfl, rfl⟩; refine ⟨⟨dat_bs _, ds, trivial⟩, ?_⟩) | (refine Side.mk ?_ ?_; · (simp; done)) | fail)
 all_goals (conv => whnf)
 refine RetA.pub 2 (ds := M'.map B) rfl (dat_bs _) ?_
 have e : AV.tuple [.agg [.dslice (((M'.map B).drop 0).take (p * 128)) p none], .bool true] = AV.tuple [.agg [.dslice (M'.map B) p none], .bool true] := by
  rw [List.drop_zero, List.take_of_length_le (by simp [hlw])]
 exact RetA.data (v := AV.tuple [.agg [.dslice (((M'.map B).drop 0).take (p * 128)) p none], .bool true]) (by rw [e]; simp [noLoc, noLocL, noLocL_bs]) ⟨e, rfl⟩
end Go.Proofs

namespace Go.Proofs
open Go Go.Eng
set_option maxRecDepth 100000
set_option maxHeartbeats 4000000

theorem sidx_eq (s : ByteArray) (i : Nat) (h : i < s.size) : [AV.int .u8 (((s.data.getD i 0).toNat : Nat) : Int)] = (((btOf s).drop i).take 1).map B := by
 obtain ⟨⟨l⟩⟩ := s
 have hi : i < l.length := h
 have hi2 : i < (l.map fun x : UInt8 => x.toNat).length := by simpa using hi
 show _ = ((((l.map fun x : UInt8 => x.toNat)).drop i).take 1).map B
 rw [List.drop_eq_getElem_cons hi2]
 simp [Array.getD, hi]
def L56 (M : List Nat) (p a : Nat) (cap : Option Nat) (s : ByteArray) (m : Nat) (fr : Fr) (H : Heap) : Prop := ∃ i : Nat, i ≤ s.size ∧ m = s.size - i ∧ fr = [(1, I a), (2, .str s), (6, .ptr 1 0), (7, .ptr 3 0), (8, I i)] ∧ H = ⟨4, [(0, .cells [.dslice (M.map B) p cap]), (1, .cells [.nils, .bool false]), (2, .cells ((wr M a ((btOf s).take i)).map B)), (3, .cells [.slice 2 0 p none 128])]⟩
theorem c56 (M : List Nat) (p a : Nat) (cap : Option Nat) (s : ByteArray) (hp : 1 ≤ p ∧ p ≤ 64) (hM : M.length = p * 128) (hs : 0 < s.size) (ha : a + s.size ≤ p * 128) : CallA Tryz.prog 56 [.agg [.dslice (M.map B) p cap], I a, .str s] Heap.nil fun v H' => v = .agg [.dslice ((wr M a (btOf s)).map B) p none, .bool true] ∧ H' = Heap.nil := by
 refine callA_of ok56 (Nat.le_of_ble_eq_true rfl) ?_
 have h74 := c74 (M.map B) p cap hp.2 (noLocL_bs M)
 have h75 := c75 M p cap hp hM
 have hlw : (wr M a (btOf s)).length = p * 128 := by rw [wr_len (by rw [btOf_len]; omega), hM]
 have na : noLocL [.agg [.dslice (M.map B) p cap]] = true := by simp [noLocL, noLoc, noLocL_bs]
 have hbl := btOf_len s
 have dm : ∀ c ∈ [AV.dslice (M.map B) p cap], noLoc c = true := dat (by simp [noLoc, noLocL_bs])
 repeat' ((conv => whnf); first | refine Branch.ofT rfl ?_ | refine Branch.ofF rfl ?_ | refine Branch.ofT (decide_eq_true (by omega)) ?_ | refine Branch.ofF (decide_eq_false (by omega)) ?_ | refine Branch.dec (fun h => ?_) (fun h => ?_) | refine Branch.negdec (fun h => ?_) (fun h => ?_) | refine Branch.neg (fun h => ?_) (fun h => ?_) | refine Branch.mk (fun h => ?_) (fun h => ?_) | (refine Side.mk ?_ ?_; · first | omega | decide) | (refine SideD.mk ?_ ?_; · first | omega | decide) | refine ⟨_, Nat.lt_succ_self _, To.refl (.inl ⟨rfl, ?_⟩)⟩ | refine CallA.pure h74 na rfl ?_ | refine CallA.ownA h75 rfl (noLocL_bs M) ?_ | (refine Side.mk ?_ ?_; · (simp; done)) | fail)
 all_goals (conv => whnf)
 refine ⟨L56 M p a cap s, s.size, To.gc [(0, true), (1, true), (2, true), (3, false)] [1, 2, 6, 7, 8] rfl ⟨dm, dat rfl, dat_bs _, trivial⟩ ⟨0, by omega, by omega, rfl, by rw [List.take_zero, wr_nil]; rfl⟩, ?_⟩
 rintro m fr H ⟨i, hi, rfl, rfl, rfl⟩
 by_cases hin : i < s.size
 · repeat' ((conv => whnf); first | refine Branch.ofT rfl ?_ | refine Branch.ofF rfl ?_ | refine Branch.ofT (decide_eq_true (by omega)) ?_ | refine Branch.ofF (decide_eq_false (by omega)) ?_ | refine Branch.dec (fun h => ?_) (fun h => ?_) | refine Branch.negdec (fun h => ?_) (fun h => ?_) | refine Branch.neg (fun h => ?_) (fun h => ?_) | refine Branch.mk (fun h => ?_) (fun h => ?_) | (refine Side.mk ?_ ?_; · first | omega | decide) | (refine SideD.mk ?_ ?_; · first | omega | decide) | refine ⟨_, Nat.lt_succ_self _, To.refl (.inl ⟨rfl, ?_⟩)⟩ | refine wr_step (bs := btOf s) (j := i) (c := 1) (by omega) (by omega) (by omega) (sidx_eq s i hin) ?_ | (refine Side.mk ?_ ?_; · (simp; done)) | fail)
   all_goals (conv => whnf)
   exact ⟨s.size - (i + 1), by omega, To.gc [(0, true), (1, true), (2, true), (3, false)] [1, 2, 6, 7, 8] rfl ⟨dm, dat rfl, dat_bs _, trivial⟩ ⟨i + 1, by omega, rfl, rfl, rfl⟩⟩
 · have hin : i = s.size := by omega
   rw [List.take_of_length_le (by omega)]
   generalize wr M a (btOf s) = M' at *
   repeat' ((conv => whnf); first | refine Branch.ofT rfl ?_ | refine Branch.ofF rfl ?_ | refine Branch.ofT (decide_eq_true (by omega)) ?_ | refine Branch.ofF (decide_eq_false (by omega)) ?_ | refine Branch.dec (fun h => ?_) (fun h => ?_) | refine Branch.negdec (fun h => ?_) (fun h => ?_) | refine Branch.neg (fun h => ?_) (fun h => ?_) | refine Branch.mk (fun h => ?_) (fun h => ?_) | (refine Side.mk ?_ ?_; · first | omega | decide) | (refine SideD.mk ?_ ?_; · first | omega | decide) | refine ⟨_, Nat.lt_succ_self _, To.refl (.inl ⟨rfl, ?_⟩)⟩ | (refine Side.mk ?_ ?_; · (simp; done)) | fail)
   all_goals (conv => whnf)
   refine RetA.pub 2 (ds := M'.map B) rfl (dat_bs _) ?_
   have e : AV.agg [.dslice (((M'.map B).drop 0).take (p * 128)) p none, .bool true] = AV.agg [.dslice (M'.map B) p none, .bool true] := by
    rw [List.drop_zero, List.take_of_length_le (by simp [hlw])]
   exact RetA.data (v := AV.agg [.dslice (((M'.map B).drop 0).take (p * 128)) p none, .bool true]) (by rw [e]; simp [noLoc, noLocL, noLocL_bs]) ⟨e, rfl⟩
end Go.Proofs

namespace Go.Proofs
open Go Go.Eng
set_option maxRecDepth 100000
set_option maxHeartbeats 4000000

theorem segB_mem : ∀ {z e : Int} {l : List Sg}, segB z e l = true → 0 ≤ e → ∀ x ∈ l, 0 ≤ x.a ∧ x.a + x.s.size ≤ z ∧ 0 < x.s.size
 | z, e, x :: r, h, he, y, hy => by
  unfold segB at h
  simp only [Bool.and_eq_true, Bool.not_eq_true', Bool.or_eq_false_iff, decide_eq_false_iff_not] at h
  obtain ⟨⟨⟨⟨h1, h2⟩, h3⟩, h4⟩, h5⟩ := h
  rcases List.mem_cons.1 hy with rfl | hy
  · omega
  · exact segB_mem h5 (by omega) y hy
theorem chk0 {i : Im} (h : i.chk = 0) : (1 ≤ i.p ∧ i.p ≤ 64) ∧ i.sg.length ≤ 64 ∧ i.dn ≤ 64 ∧ segB (i.p * 128) 0 i.sg = true := by
 unfold Im.chk at h
 split at h
 · omega
 · rename_i h1
   split at h
   · omega
   · rename_i h2
     split at h
     · rename_i h3; refine ⟨by omega, by omega, by omega, h3⟩
     · omega
def memK (i : Im) (k : Nat) : List Nat := (i.sg.take k).foldl (fun M x => wr M x.a.toNat (btOf x.s)) (List.replicate (i.p.toNat * 128) 0)
def capM (i : Im) (k : Nat) : Option Nat := if k = 0 then some i.p.toNat else none
theorem memK_succ {i : Im} {k : Nat} (h : k < i.sg.length) : memK i (k + 1) = wr (memK i k) (i.sg[k]).a.toNat (btOf (i.sg[k]).s) := by
 unfold memK
 rw [List.take_succ_eq_append_getElem h, List.foldl_append]; rfl
theorem memK_len {i : Im} (h : i.chk = 0) : ∀ k, k ≤ i.sg.length → (memK i k).length = i.p.toNat * 128
 | 0, _ => by simp [memK]
 | k + 1, hk => by
  obtain ⟨h1, h2, h3, h4⟩ := chk0 h
  have hm := segB_mem h4 (Int.le_refl 0) _ (List.getElem_mem (show k < i.sg.length by omega))
  rw [memK_succ (by omega), wr_len (by rw [memK_len h k (by omega), btOf_len]; omega), memK_len h k (by omega)]
theorem rep_app : ∀ n : Nat, rep (List.replicate 128 (B 0)) n = List.replicate (n * 128) (B 0)
 | 0 => rfl
 | n + 1 => by
  show List.replicate 128 (B 0) ++ rep (List.replicate 128 (B 0)) n = _
  rw [rep_app n, List.replicate_append_replicate]; congr 1; omega
theorem c50 (p : Nat) (hp : 1 ≤ p ∧ p ≤ 64) : CallA Tryz.prog 50 [I p] Heap.nil fun v H' => v = .tuple [.agg [.dslice ((List.replicate (p * 128) 0).map B) p (some p)], I 0] ∧ H' = Heap.nil := by
 refine callA_of ok50 (Nat.le_of_ble_eq_true rfl) ?_
 have hr : rep (List.replicate 128 (B 0)) p = (List.replicate (p * 128) 0).map B := by rw [rep_app, List.map_replicate]
 repeat' ((conv => whnf); first | refine Branch.ofT rfl ?_ | refine Branch.ofF rfl ?_ | refine Branch.ofT (decide_eq_true (by omega)) ?_ | refine Branch.ofF (decide_eq_false (by omega)) ?_ | refine Branch.dec (fun h => ?_) (fun h => ?_) | refine Branch.negdec (fun h => ?_) (fun h => ?_) | refine Branch.neg (fun h => ?_) (fun h => ?_) | refine Branch.mk (fun h => ?_) (fun h => ?_) | (refine Side.mk ?_ ?_; · first | omega | decide) | (refine SideD.mk ?_ ?_; · first | omega | decide) | refine ⟨_, Nat.lt_succ_self _, To.refl (.inl ⟨rfl, ?_⟩)⟩ | refine Side.mk ⟨by omega, by omega, by omega⟩ ?_ | (refine Side.mk ?_ ?_; · (simp; done)) | fail)
 all_goals (conv => whnf)
 refine RetA.pub 1 (ds := (List.replicate (p * 128) 0).map B) (Eq.trans rfl (congrArg AB.cells hr)) (dat_bs _) ?_
 have e : AV.tuple [.agg [.dslice ((((List.replicate (p * 128) 0).map B).drop 0).take (p * 128)) p (some p)], I 0] = AV.tuple [.agg [.dslice ((List.replicate (p * 128) 0).map B) p (some p)], I 0] := by
  rw [List.drop_zero, List.take_of_length_le (by simp)]
 exact RetA.data (v := AV.tuple [.agg [.dslice ((((List.replicate (p * 128) 0).map B).drop 0).take (p * 128)) p (some p)], I 0]) (by rw [e]; simp [noLoc, noLocL, noLocL_bs]) ⟨e, rfl⟩
end Go.Proofs

namespace Go.Proofs
open Go Go.Eng
set_option maxRecDepth 100000
set_option maxHeartbeats 4000000

def memC (i : Im) (k : Nat) : AV := .dslice ((memK i k).map B) i.p.toNat (capM i k)
theorem memC_data (i : Im) (k : Nat) : ∀ c ∈ [memC i k], noLoc c = true := dat (by simp [memC, noLoc, noLocL_bs])
theorem pNat {i : Im} (h : i.chk = 0) : ((i.p.toNat : Nat) : Int) = i.p ∧ 1 ≤ i.p.toNat ∧ i.p.toNat ≤ 64 := by
 obtain ⟨h1, _⟩ := chk0 h; omega
def L33 (i : Im) (m : Nat) (fr : Fr) (H : Heap) : Prop := ∃ k : Nat, k ≤ i.sg.length ∧ m = i.sg.length - k ∧ fr = [(1, .ptr 0 0), (2, .ptr 1 0), (5, .ptr 2 0), (6, I 0), (22, .dslice (sgc i.sg) i.sg.length none), (23, I i.sg.length), (24, I k)] ∧ H = ⟨3, [(0, imc i), (1, .cells [.nils]), (2, .cells [memC i k])]⟩
theorem c33 (i : Im) (h : i.ok) (hc : i.chk = 0) : CallA Tryz.prog 33 [i.av] Heap.nil fun v H' => v = .tuple [.agg [memC i i.sg.length], I 0] ∧ H' = Heap.nil := by
 refine callA_of ok33 (Nat.le_of_ble_eq_true rfl) ?_
 have h49 := c49 i h
 rw [hc] at h49
 have hl := Im.noLoc h
 obtain ⟨p1, p2, p3⟩ := pNat hc
 obtain ⟨q1, q2, q3, q4⟩ := chk0 hc
 have h50 := c50 i.p.toNat ⟨p2, p3⟩
 rw [p1] at h50
 have m0 : memC i 0 = .dslice ((List.replicate (i.p.toNat * 128) 0).map B) i.p.toNat (some i.p.toNat) := rfl
 rw [← m0] at h50
 have nl : ∀ k, noLoc (memC i k) = true := fun k => memC_data i k _ List.mem_cons_self
 repeat' ((conv => whnf); first | refine Branch.ofT rfl ?_ | refine Branch.ofF rfl ?_ | refine Branch.dec (fun h => ?_) (fun h => ?_) | refine Branch.negdec (fun h => ?_) (fun h => ?_) | refine Branch.neg (fun h => ?_) (fun h => ?_) | refine Branch.mk (fun h => ?_) (fun h => ?_) | (refine Side.mk ?_ ?_; · first | omega | decide) | (refine SideD.mk ?_ ?_; · first | omega | decide) | refine ⟨_, Nat.lt_succ_self _, To.refl (.inl ⟨rfl, ?_⟩)⟩ | refine CallA.pure h49 (by simp [noLocL, hl]) rfl ?_ | refine CallA.pure h50 rfl (by simp [noLoc, noLocL, nl]) ?_ | (refine Side.mk ?_ ?_; · (simp; done)) | fail)
 all_goals (conv => whnf)
 refine ⟨L33 i, i.sg.length, To.gc [(0, true), (1, true), (2, true)] [1, 2, 5, 6, 22, 23, 24] rfl ⟨imc_noLoc h, dat rfl, memC_data i 0, trivial⟩ ⟨0, by omega, by omega, rfl, rfl⟩, ?_⟩
 rintro m fr H ⟨k, hk, rfl, rfl, rfl⟩
 by_cases hkl : k < i.sg.length
 · have hm := segB_mem q4 (Int.le_refl 0) _ (List.getElem_mem hkl)
   have hsu := memK_succ hkl
   have hml := memK_len hc k hk
   generalize hx : i.sg[k] = x at hm hsu
   obtain ⟨a, s⟩ := x
   simp only at hm hsu
   obtain ⟨b, rfl⟩ : ∃ b : Nat, a = b := ⟨a.toNat, by omega⟩
   rw [Int.toNat_natCast] at hsu
   have h51 := c51 (memK i k) i.p.toNat b (capM i k) s ⟨p2, p3⟩ hml hm.2.2 (by omega)
   rw [← hsu] at h51
   have hk1 : memC i (k + 1) = .dslice ((memK i (k + 1)).map B) i.p.toNat none := by unfold memC capM; rw [if_neg (by omega)]
   rw [← hk1] at h51
   repeat' ((conv => whnf); first | refine Branch.ofT rfl ?_ | refine Branch.ofF rfl ?_ | refine Branch.ofT (decide_eq_true (by omega)) ?_ | refine Branch.ofF (decide_eq_false (by omega)) ?_ | refine Branch.dec (fun h => ?_) (fun h => ?_) | refine Branch.negdec (fun h => ?_) (fun h => ?_) | refine Branch.neg (fun h => ?_) (fun h => ?_) | refine Branch.mk (fun h => ?_) (fun h => ?_) | (refine Side.mk ?_ ?_; · first | omega | decide) | (refine SideD.mk ?_ ?_; · first | omega | decide) | refine ⟨_, Nat.lt_succ_self _, To.refl (.inl ⟨rfl, ?_⟩)⟩ | refine tkp hkl hx (by omega) ?_ | refine CallA.pure h51 (by simp [noLocL, noLoc, noLocL_bs]) (by simp [noLoc, noLocL, nl]) ?_ | (refine Side.mk ?_ ?_; · (simp; done)) | fail)
   all_goals (conv => whnf)
   exact ⟨i.sg.length - (k + 1), by omega, To.gc [(0, true), (1, true), (2, true)] [1, 2, 5, 6, 22, 23, 24] rfl ⟨imc_noLoc h, dat rfl, memC_data i (k + 1), trivial⟩ ⟨k + 1, by omega, rfl, rfl, rfl⟩⟩
 · have hkl : k = i.sg.length := by omega
   subst hkl
   repeat' ((conv => whnf); first | refine Branch.ofT rfl ?_ | refine Branch.ofF rfl ?_ | refine Branch.ofT (decide_eq_true (by omega)) ?_ | refine Branch.ofF (decide_eq_false (by omega)) ?_ | refine Branch.dec (fun h => ?_) (fun h => ?_) | refine Branch.negdec (fun h => ?_) (fun h => ?_) | refine Branch.neg (fun h => ?_) (fun h => ?_) | refine Branch.mk (fun h => ?_) (fun h => ?_) | (refine Side.mk ?_ ?_; · first | omega | decide) | (refine SideD.mk ?_ ?_; · first | omega | decide) | refine ⟨_, Nat.lt_succ_self _, To.refl (.inl ⟨rfl, ?_⟩)⟩ | (refine Side.mk ?_ ?_; · (simp; done)) | fail)
   all_goals (conv => whnf)
   exact RetA.data (v := .tuple [.agg [memC i i.sg.length], I 0]) (by simp [noLoc, noLocL, nl]) ⟨rfl, rfl⟩
end Go.Proofs

namespace Go.Proofs
open Go Go.Eng
set_option maxRecDepth 100000
set_option maxHeartbeats 4000000

theorem sg_a {l : List Sg} {k off : Nat} {a : Int} {s : ByteArray} {K : AV → Prop} (h : k < l.length) (hx : l[k] = ⟨a, s⟩) (ho : off = 2 * k) (hk : K (I a)) : nthK 0 ((sgc l).drop off) K := by
 rw [sgc_at h ho, hx]; exact hk
theorem sg_s {l : List Sg} {k off : Nat} {a : Int} {s : ByteArray} {K : AV → Prop} (h : k < l.length) (hx : l[k] = ⟨a, s⟩) (ho : off = 2 * k) (hk : K (.str s)) : nthK 0 (((sgc l).drop off).drop 1) K := by
 rw [sgc_at h ho, hx]; exact hk
def L37 (i : Im) (m : Nat) (fr : Fr) (H : Heap) : Prop := ∃ k : Nat, k ≤ i.sg.length ∧ m = i.sg.length - k ∧ fr = [(1, .ptr 0 0), (2, .ptr 1 0), (4, .ptr 2 0), (5, I k)] ∧ H = ⟨3, [(0, imc i), (1, .cells [.nils, I 0]), (2, .cells [memC i k])]⟩
theorem c37 (i : Im) (h : i.ok) (hc : i.chk = 0) : CallA Tryz.prog 37 [i.av] Heap.nil fun v H' => v = .agg [memC i i.sg.length, I 0] ∧ H' = Heap.nil := by
 refine callA_of ok37 (Nat.le_of_ble_eq_true rfl) ?_
 have h54 := c54 i h
 rw [hc] at h54
 have hl := Im.noLoc h
 obtain ⟨p1, p2, p3⟩ := pNat hc
 obtain ⟨q1, q2, q3, q4⟩ := chk0 hc
 have hr : rep (List.replicate 128 (B 0)) i.p.toNat = (List.replicate (i.p.toNat * 128) 0).map B := by rw [rep_app, List.map_replicate]
 have nl : ∀ k, noLoc (memC i k) = true := fun k => memC_data i k _ List.mem_cons_self
 repeat' ((conv => whnf); first | refine Branch.ofT rfl ?_ | refine Branch.ofF rfl ?_ | refine Branch.ofT (decide_eq_true (by omega)) ?_ | refine Branch.ofF (decide_eq_false (by omega)) ?_ | refine Branch.dec (fun h => ?_) (fun h => ?_) | refine Branch.negdec (fun h => ?_) (fun h => ?_) | refine Branch.neg (fun h => ?_) (fun h => ?_) | refine Branch.mk (fun h => ?_) (fun h => ?_) | (refine Side.mk ?_ ?_; · first | omega | decide) | (refine SideD.mk ?_ ?_; · first | omega | decide) | refine ⟨_, Nat.lt_succ_self _, To.refl (.inl ⟨rfl, ?_⟩)⟩ | refine CallA.pure h54 (by simp [noLocL, hl]) rfl ?_ | refine Side.mk ⟨by omega, by omega, by omega⟩ ?_ | (refine Side.mk ?_ ?_; · (simp; done)) | fail)
 all_goals (conv => whnf)
 have hm0 : AV.dslice ((((List.replicate (i.p.toNat * 128) 0).map B).drop 0).take (i.p.toNat * 128)) i.p.toNat (some i.p.toNat) = memC i 0 := by
  rw [List.drop_zero, List.take_of_length_le (by simp)]; rfl
 refine ⟨L37 i, i.sg.length, To.pub 2 [1, 2, 4, 5] (ds := (List.replicate (i.p.toNat * 128) 0).map B) (Eq.trans rfl (congrArg AB.cells hr)) (dat_bs _) (To.gc [(0, true), (1, true), (3, true)] [1, 2, 4, 5] rfl ⟨?_, dat rfl, ?_, trivial⟩ ⟨0, by omega, by omega, rfl, ?_⟩), ?_⟩
 · exact imc_noLoc h
 · exact (show ∀ c ∈ [AV.dslice ((((List.replicate (i.p.toNat * 128) 0).map B).drop 0).take (i.p.toNat * 128)) i.p.toNat (some i.p.toNat)], noLoc c = true by rw [hm0]; exact memC_data i 0)
 · rw [← hm0]; rfl
 rintro m fr H ⟨k, hk, rfl, rfl, rfl⟩
 by_cases hkl : k < i.sg.length
 · have hm := segB_mem q4 (Int.le_refl 0) _ (List.getElem_mem hkl)
   have hsu := memK_succ hkl
   have hml := memK_len hc k hk
   generalize hx : i.sg[k] = x at hm hsu
   obtain ⟨a, s⟩ := x
   simp only at hm hsu
   obtain ⟨b, rfl⟩ : ∃ b : Nat, a = b := ⟨a.toNat, by omega⟩
   rw [Int.toNat_natCast] at hsu
   have h56 := c56 (memK i k) i.p.toNat b (capM i k) s ⟨p2, p3⟩ hml hm.2.2 (by omega)
   rw [← hsu] at h56
   have hk1 : memC i (k + 1) = .dslice ((memK i (k + 1)).map B) i.p.toNat none := by unfold memC capM; rw [if_neg (by omega)]
   rw [← hk1] at h56
   repeat' ((conv => whnf); first | refine Branch.ofT rfl ?_ | refine Branch.ofF rfl ?_ | refine Branch.ofT (decide_eq_true (by omega)) ?_ | refine Branch.ofF (decide_eq_false (by omega)) ?_ | refine Branch.dec (fun h => ?_) (fun h => ?_) | refine Branch.negdec (fun h => ?_) (fun h => ?_) | refine Branch.neg (fun h => ?_) (fun h => ?_) | refine Branch.mk (fun h => ?_) (fun h => ?_) | (refine Side.mk ?_ ?_; · first | omega | decide) | (refine SideD.mk ?_ ?_; · first | omega | decide) | refine ⟨_, Nat.lt_succ_self _, To.refl (.inl ⟨rfl, ?_⟩)⟩ | refine sg_a hkl hx (by omega) ?_ | refine sg_s hkl hx (by omega) ?_ | refine QCallA.of h56 (by simp [noLocL, noLoc, noLocL_bs]) (by simp [noLoc, noLocL, nl]) ?_ | (refine Side.mk ?_ ?_; · (simp; done)) | fail)
   all_goals (conv => whnf)
   exact ⟨i.sg.length - (k + 1), by omega, To.gc [(0, true), (1, true), (2, true)] [1, 2, 4, 5] rfl ⟨imc_noLoc h, dat rfl, memC_data i (k + 1), trivial⟩ ⟨k + 1, by omega, rfl, rfl, rfl⟩⟩
 · have hkl : k = i.sg.length := by omega
   subst hkl
   repeat' ((conv => whnf); first | refine Branch.ofT rfl ?_ | refine Branch.ofF rfl ?_ | refine Branch.ofT (decide_eq_true (by omega)) ?_ | refine Branch.ofF (decide_eq_false (by omega)) ?_ | refine Branch.dec (fun h => ?_) (fun h => ?_) | refine Branch.negdec (fun h => ?_) (fun h => ?_) | refine Branch.neg (fun h => ?_) (fun h => ?_) | refine Branch.mk (fun h => ?_) (fun h => ?_) | (refine Side.mk ?_ ?_; · first | omega | decide) | (refine SideD.mk ?_ ?_; · first | omega | decide) | refine ⟨_, Nat.lt_succ_self _, To.refl (.inl ⟨rfl, ?_⟩)⟩ | (refine Side.mk ?_ ?_; · (simp; done)) | fail)
   all_goals (conv => whnf)
   exact RetA.data (v := .agg [memC i i.sg.length, I 0]) (by simp [noLoc, noLocL, nl]) ⟨rfl, rfl⟩
end Go.Proofs

