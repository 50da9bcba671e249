/- Part of a proof about the given program: lemmas that the other parts use. -/
import Derived.Test.YtblohbcoclhbhaaGreatPart3
import Derived.Test.YtblohbcoclhbhaaGreatProg
import Derived.KernelRfl

set_option linter.all false
set_option linter.unusedSimpArgs false
set_option linter.unusedVariables false
set_option maxRecDepth 100000
namespace Go.Proofs
open Go Go.Eng
def ac26 : AC := (.seq (.reg [sm 2 (.p (.mov (.c zi6)))])
 (.seq (.reg [mv 7 0, sm 8 (.p (.nilchk (.t 7))), fa 9 9 8, fa 10 1 9, ld 11 10, mv 3 11])
 (.seq (.block 0 (.seq (.reg [mv 13 3, mv 14 0, sm 15 (.p (.nilchk (.t 14))), fa 16 0 15, fa 17 0 16, ld 18 17, sm 19 (.p (.len false (.t 18))), sm 20 (.call 17 [(.t 13), (.t 19)]), sm 21 (.p (.un .not (.t 20))), mv 12 21])
 (.cond (.t 12) (.seq (.reg [sm 2 (.p (.mov (.c (.int .i64 5))))])
 .ret) (.seq (.reg [mv 23 0, sm 24 (.p (.nilchk (.t 23))), fa 25 9 24, fa 26 3 25, fa 27 0 26, ld 28 27, sm 29 (.p (.bin .eql (.t 28) (.c (.int .i64 4)))), mv 22 29])
 (.cond (.t 22) (.seq (.reg [sm 2 (.p (.mov (.c (.int .i64 1))))])
 .ret) .skip)))))
 (.seq (.draw 22 [(18, 19), (13, 19), (4, 19), (7, 19), (12, 19)] [mv 31 0, sm 32 (.p (.nilchk (.t 31))), fa 33 0 32, fa 34 0 33, ld 35 34, mv 36 3, sm 37 (.p (.idxA 47 none (.t 35) (.t 36))), la 38 47 37, mv 39 0, sm 40 (.p (.nilchk (.t 39))), fa 41 9 40, fa 42 3 41, la 43 5 42, sm 44 (.call 41 [(.t 38), (.t 43)]), mv 30 44, sm 45 (.p (.extract 0 (.t 30))), sm 46 (.p (.extract 1 (.t 30))), sm 47 (.p (.extract 2 (.t 30))), sm 4 (.h (.alloc [.nils, .nils, zi6, zu3, zu3, zu3, zu3, zu3, zu3, zu3, zu3, zi6, zi6, zi6, zi6, zi6, zi6, (.bool false), (.bool false), (.bool false), (.bool false), zi6, zi6, zi6, zi6, zi6, zi6, zi6, zi6, (.str .empty), zi6, zu3, zu3, zi6, zi6, .nils, .nils, zu3, zu3, zu3, zu3, zi6, zi6, zi6, zi6, .nils, zi6])), st 47 4 45, mv 5 46, mv 6 47])
 (.seq (.seq (.reg [mv 48 6, sm 49 (.p (.bin .eql (.t 48) (.c zi6)))])
 (.cond (.t 49) (.draw 8 [] [mv 50 0, mv 51 3, mv 52 0, sm 53 (.p (.nilchk (.t 52))), fa 54 9 53, fa 55 3 54, la 56 5 55, la 57 47 4, sm 58 (.call 42 [(.t 50), (.t 51), (.t 56), (.t 57)])]) .skip))
 (.seq (.reg [mv 59 6, mv 2 59])
 .ret))))))
def rs26 : List AR := [.tmp 2]
theorem ok26 : okF Tryz.prog 26 60 ac26 rs26 = true := by kernel_rfl
def ac27 : AC := (.seq (.reg [sm 2 (.p (.mov (.c zi6)))])
 (.seq (.reg [mv 9 0, sm 10 (.p (.nilchk (.t 9))), fa 11 9 10, fa 12 2 11, ld 13 12, mv 3 13])
 (.seq (.block 0 (.seq (.reg [mv 15 3, mv 16 0, sm 17 (.p (.nilchk (.t 16))), fa 18 0 17, fa 19 1 18, ld 20 19, sm 21 (.p (.len false (.t 20))), sm 22 (.call 17 [(.t 15), (.t 21)]), sm 23 (.p (.un .not (.t 22))), mv 14 23])
 (.cond (.t 14) (.seq (.reg [sm 2 (.p (.mov (.c (.int .i64 5))))])
 .ret) (.seq (.reg [mv 25 0, sm 26 (.p (.nilchk (.t 25))), fa 27 0 26, fa 28 2 27, ld 29 28, mv 30 3, sm 31 (.p (.idxA 1 none (.t 29) (.t 30))), ld 32 31, sm 33 (.p (.len false (.t 32))), sm 34 (.p (.bin .eql (.t 33) (.c zi6))), mv 24 34])
 (.cond (.t 24) (.seq (.reg [sm 2 (.p (.mov (.c (.int .i64 4))))])
 .ret) .skip)))))
 (.seq (.draw 22 [(19, 20), (9, 20), (4, 20), (7, 20)] [mv 35 0, sm 36 (.p (.nilchk (.t 35))), fa 37 0 36, fa 38 2 37, ld 39 38, mv 40 3, sm 41 (.p (.idxA 1 none (.t 39) (.t 40))), ld 42 41, sm 43 (.p (.idxA 2 none (.t 42) (.c zi6))), la 44 2 43, mv 45 0, sm 46 (.p (.nilchk (.t 45))), fa 47 0 46, fa 48 1 47, ld 49 48, mv 50 3, sm 51 (.p (.idxA 2 none (.t 49) (.t 50))), fa 52 1 51, ld 53 52, sm 4 (.h (.alloc [(.bool false), (.str .empty)])), st 2 4 44, mv 5 53])
 (.seq (.draw 21 [(16, 20), (5, 20), (11, 20), (14, 20)] [mv 54 0, mv 55 0, sm 56 (.p (.nilchk (.t 55))), fa 57 0 56, fa 58 2 57, ld 59 58, mv 60 3, mv 61 0, sm 62 (.p (.nilchk (.t 61))), fa 63 0 62, fa 64 2 63, ld 65 64, mv 66 3, sm 67 (.p (.idxA 1 none (.t 65) (.t 66))), ld 68 67, sm 69 (.v (.sub 2 (.t 68) (some (.c (.int .i64 1))) none none)), sm 70 (.call 43 [(.t 59), (.t 60), (.t 69)]), sm 71 (.p (.nilchk (.t 54))), fa 72 0 71, fa 73 2 72, st 1 73 70])
 (.seq (.seq (.reg [fa 74 0 4, ld 75 74])
 (.cond (.t 75) (.seq (.reg [mv 76 0, mv 77 3, mv 78 5, sm 79 (.call 44 [(.t 76), (.t 77), (.t 78)])])
 (.seq (.reg [sm 2 (.p (.mov (.c zi6)))])
 .ret)) .skip))
 (.seq (.draw 17 [(15, 16), (4, 16), (8, 16), (11, 16), (13, 16)] [mv 80 0, sm 81 (.p (.nilchk (.t 80))), fa 82 0 81, fa 83 0 82, ld 84 83, mv 85 5, sm 86 (.p (.idxA 47 none (.t 84) (.t 85))), fa 87 0 86, ld 88 87, sm 89 (.p (.idxA 30 none (.t 88) (.c zi6))), fa 90 29 89, ld 91 90, fa 92 1 4, ld 93 92, sm 94 (.v (.build [zi6, zi6, zi6, zi6, (.str .empty)] [(0, 1, (.c (.int .i64 4))), (2, 1, (.t 91)), (4, 1, (.t 93))])), sm 6 (.h (.alloc [zi6, zi6, zi6, zi6, (.str .empty)])), st 5 6 94])
 (.seq (.draw 16 [(13, 14), (9, 14), (4, 14), (7, 14), (8, 14)] [mv 96 0, sm 97 (.p (.nilchk (.t 96))), fa 98 0 97, fa 99 0 98, ld 100 99, mv 101 5, sm 102 (.p (.idxA 47 none (.t 100) (.t 101))), la 103 47 102, la 104 5 6, sm 105 (.call 45 [(.t 103), (.t 104)]), mv 95 105, sm 106 (.p (.extract 0 (.t 95))), sm 107 (.p (.extract 1 (.t 95))), sm 7 (.h (.alloc [.nils, .nils, zi6, zu3, zu3, zu3, zu3, zu3, zu3, zu3, zu3, zi6, zi6, zi6, zi6, zi6, zi6, (.bool false), (.bool false), (.bool false), (.bool false), zi6, zi6, zi6, zi6, zi6, zi6, zi6, zi6, (.str .empty), zi6, zu3, zu3, zi6, zi6, .nils, .nils, zu3, zu3, zu3, zu3, zi6, zi6, zi6, zi6, .nils, zi6])), st 47 7 106, mv 8 107])
 (.seq (.seq (.reg [mv 108 8, sm 109 (.p (.bin .neq (.t 108) (.c zi6)))])
 (.cond (.t 109) (.seq (.reg [mv 110 8, mv 2 110])
 .ret) .skip))
 (.seq (.seq (.reg [mv 111 0, sm 112 (.p (.nilchk (.t 111))), fa 113 0 112, fa 114 4 113, fa 115 0 114, ld 116 115, mv 117 116, ⟨some 118, .p (.mov (.t 0)), (some (117, true))⟩, ⟨some 119, .p (.nilchk (.t 118)), (some (117, true))⟩, ⟨some 120, .p (.fieldA 0 (.t 119)), (some (117, true))⟩, ⟨some 121, .p (.fieldA 4 (.t 120)), (some (117, true))⟩, ⟨some 122, .p (.fieldA 1 (.t 121)), (some (117, true))⟩, ⟨some 123, .h (.load false 1 (.t 122)), (some (117, true))⟩, ⟨some 124, .p (.mov (.t 5)), (some (117, true))⟩, ⟨some 125, .p (.idxA 1 none (.t 123) (.t 124)), (some (117, true))⟩, ⟨some 126, .h (.load false 1 (.t 125)), (some (117, true))⟩, sm 127 (.p (.pick (.t 117) (.t 126) (.c (.bool false)))), mv 128 127, ⟨some 129, .p (.mov (.t 0)), (some (128, true))⟩, ⟨some 130, .p (.nilchk (.t 129)), (some (128, true))⟩, ⟨some 131, .p (.fieldA 0 (.t 130)), (some (128, true))⟩, ⟨some 132, .p (.fieldA 4 (.t 131)), (some (128, true))⟩, ⟨some 133, .p (.fieldA 3 (.t 132)), (some (128, true))⟩, ⟨some 134, .h (.load false 1 (.t 133)), (some (128, true))⟩, ⟨some 135, .p (.mov (.t 3)), (some (128, true))⟩, ⟨some 136, .p (.idxA 1 none (.t 134) (.t 135)), (some (128, true))⟩, ⟨some 137, .h (.load false 1 (.t 136)), (some (128, true))⟩, ⟨some 138, .p (.un .not (.t 137)), (some (128, true))⟩, sm 139 (.p (.pick (.t 128) (.t 138) (.c (.bool false))))])
 (.cond (.t 139) (.draw 16 [(10, 15), (6, 15), (9, 15)] [mv 140 0, mv 141 0, sm 142 (.p (.nilchk (.t 141))), fa 143 0 142, fa 144 4 143, fa 145 4 144, ld 146 145, mv 147 3, fa 148 1 4, ld 149 148, sm 150 (.call 46 [(.t 146), (.t 147), (.t 149)]), sm 151 (.p (.nilchk (.t 140))), fa 152 0 151, fa 153 4 152, fa 154 4 153, st 1 154 150]) .skip))
 (.seq (.reg [mv 155 0, mv 156 5, la 157 5 6, la 158 47 7, sm 159 (.call 42 [(.t 155), (.t 156), (.t 157), (.t 158)])])
 (.seq (.reg [sm 2 (.p (.mov (.c zi6)))])
 .ret))))))))))))
def rs27 : List AR := [.tmp 2]
theorem ok27 : okF Tryz.prog 27 160 ac27 rs27 = true := by kernel_rfl
def ac28 : AC := (.seq (.reg [sm 2 (.p (.mov (.c zi6)))])
 (.seq (.block 0 (.seq (.draw 14 [] [mv 6 0, sm 7 (.p (.nilchk (.t 6))), fa 8 9 7, fa 9 1 8, ld 10 9, mv 11 0, sm 12 (.p (.nilchk (.t 11))), fa 13 0 12, fa 14 0 13, ld 15 14, sm 16 (.p (.len false (.t 15))), sm 17 (.call 17 [(.t 10), (.t 16)]), sm 18 (.p (.un .not (.t 17))), mv 5 18])
 (.cond (.t 5) (.seq (.reg [sm 2 (.p (.mov (.c (.int .i64 5))))])
 .ret) (.seq (.reg [mv 20 0, sm 21 (.p (.nilchk (.t 20))), fa 22 0 21, fa 23 4 22, fa 24 0 23, ld 25 24, mv 19 25])
 (.cond (.t 19) (.seq (.reg [sm 2 (.p (.mov (.c (.int .i64 4))))])
 .ret) .skip)))))
 (.seq (.draw 14 [] [mv 26 0, sm 27 (.p (.nilchk (.t 26))), fa 28 0 27, fa 29 0 28, ld 30 29, sm 31 (.p (.len false (.t 30))), mv 32 0, sm 33 (.p (.nilchk (.t 32))), fa 34 0 33, fa 35 1 34, ld 36 35, sm 37 (.p (.len false (.t 36))), mv 3 31, mv 4 37])
 (.seq (.draw 14 [(2, 13), (4, 13), (6, 13), (8, 13)] [mv 38 0, mv 39 3, sm 40 (.l (.make 1 1 [(.bool false)] (.t 39))), mv 41 3, sm 42 (.l (.make 47 384 [.nils, .nils, zi6, zu3, zu3, zu3, zu3, zu3, zu3, zu3, zu3, zi6, zi6, zi6, zi6, zi6, zi6, (.bool false), (.bool false), (.bool false), (.bool false), zi6, zi6, zi6, zi6, zi6, zi6, zi6, zi6, (.str .empty), zi6, zu3, zu3, zi6, zi6, .nils, .nils, zu3, zu3, zu3, zu3, zi6, zi6, zi6, zi6, .nils, zi6] (.t 41))), mv 43 4, sm 44 (.l (.make 1 1 [(.bool false)] (.t 43))), mv 45 4, sm 46 (.l (.make 1 24 [.nils] (.t 45))), sm 47 (.v (.build [(.bool false), .nils, .nils, .nils, .nils] [(0, 1, (.c (.bool true))), (1, 1, (.t 40)), (2, 1, (.t 42)), (3, 1, (.t 44)), (4, 1, (.t 46))])), sm 48 (.p (.nilchk (.t 38))), fa 49 0 48, fa 50 4 49, st 5 50 47])
 (.seq (.reg [mv 51 0, mv 52 0, sm 53 (.p (.nilchk (.t 52))), fa 54 9 53, fa 55 1 54, ld 56 55, sm 57 (.call 47 [(.t 51), (.t 56)])])
 (.seq (.reg [sm 2 (.p (.mov (.c zi6)))])
 .ret))))))
def rs28 : List AR := [.tmp 2]
theorem ok28 : okF Tryz.prog 28 58 ac28 rs28 = true := by kernel_rfl
def ac29 : AC := (.seq (.reg [sm 4 (.p (.mov (.c (.bool false))))])
 (.seq (.reg [mv 5 0, mv 6 1, sm 7 (.call 48 [(.t 5), (.t 6)]), sm 8 (.p (.bin .geq (.t 7) (.c zi6))), mv 4 8])
 .ret))
def rs29 : List AR := [.tmp 4]
theorem ok29 : okF Tryz.prog 29 9 ac29 rs29 = true := by kernel_rfl
def ac30 : AC := (.seq (.reg [sm 2 (.p (.mov (.c .nils)))])
 (.seq (.seq (.reg [mv 3 0, sm 4 (.nq false (.t 3))])
 (.cond (.t 4) (.seq (.reg [sm 2 (.p (.mov (.c .nils)))])
 .ret) .skip))
 (.seq (.reg [sm 5 (.l (.bslice 47 0 [.nils, .nils, zi6, zu3, zu3, zu3, zu3, zu3, zu3, zu3, zu3, zi6, zi6, zi6, zi6, zi6, zi6, (.bool false), (.bool false), (.bool false), (.bool false), zi6, zi6, zi6, zi6, zi6, zi6, zi6, zi6, (.str .empty), zi6, zu3, zu3, zi6, zi6, .nils, .nils, zu3, zu3, zu3, zu3, zi6, zi6, zi6, zi6, .nils, zi6] [])), mv 6 0, sm 7 (.l (.append 47 384 (.t 5) (.t 6))), mv 2 7])
 .ret)))
def rs30 : List AR := [.tmp 2]
theorem ok30 : okF Tryz.prog 30 8 ac30 rs30 = true := by kernel_rfl
def ac31 : AC := (.seq (.reg [sm 4 (.p (.mov (.c zi6)))])
 (.seq (.seq (.reg [mv 6 0, sm 7 (.p (.len false (.t 6))), sm 8 (.p (.mov (.c zi6)))])
 (.block 0 (.loop (.seq (.reg [sm 9 (.p (.bin .lss (.t 8) (.t 7)))])
 (.seq (.cond (.t 9) .skip (.exit 0))
 (.seq (.block 1 (.seq (.reg [mv 10 8, mv 5 10])
 (.seq (.reg [mv 11 1, mv 12 0, mv 13 5, sm 14 (.p (.idxA 2 none (.t 12) (.t 13))), la 15 2 14, sm 16 (.callv (.t 11) [(.t 15)])])
 (.cond (.t 16) (.seq (.reg [mv 17 5, mv 4 17])
 .ret) .skip))))
 (.reg [sm 18 (.p (.bin .add (.t 8) (.c (.int .i64 1)))), mv 8 18])))))))
 (.seq (.reg [sm 4 (.p (.mov (.c (.int .i64 (-1)))))])
 .ret)))
def rs31 : List AR := [.tmp 4]
theorem ok31 : okF Tryz.prog 31 19 ac31 rs31 = true := by kernel_rfl
def ac32 : AC := (.seq (.reg [sm 2 (.h (.box (.t 0))), sm 4 (.p (.mov (.c .nils))), sm 5 (.p (.mov (.c zi6)))])
 (.seq (.seq (.reg [la 10 4 2, sm 11 (.call 49 [(.t 10)]), mv 6 11])
 (.seq (.reg [mv 12 6, sm 13 (.p (.bin .neq (.t 12) (.c zi6)))])
 (.cond (.t 13) (.seq (.reg [mv 14 6, sm 4 (.p (.mov (.c .nils))), mv 5 14])
 .ret) .skip)))
 (.seq (.seq (.reg [mv 15 1, sm 16 (.p (.bin .lss (.t 15) (.c (.int .i64 1)))), mv 17 16, ⟨some 18, .p (.mov (.t 1)), (some (17, false))⟩, ⟨some 19, .p (.bin .gtr (.t 18) (.c (.int .i64 4))), (some (17, false))⟩, sm 20 (.p (.pick (.t 17) (.c (.bool true)) (.t 19)))])
 (.cond (.t 20) (.seq (.reg [sm 4 (.p (.mov (.c .nils))), sm 5 (.p (.mov (.c (.int .i64 1))))])
 .ret) .skip))
 (.seq (.reg [sm 7 (.p (.mov (.c .nils)))])
 (.seq (.seq (.reg [mv 21 1, sm 22 (.p (.mov (.c zi6)))])
 (.block 0 (.loop (.seq (.reg [sm 23 (.p (.bin .lss (.t 22) (.t 21)))])
 (.seq (.cond (.t 23) .skip (.exit 0))
 (.seq (.block 1 (.seq (.reg [mv 24 22, mv 8 24])
 (.seq (.reg [fa 25 0 2, ld 26 25, sm 27 (.p (.convw .u32 (.t 26))), mv 28 8, sm 29 (.p (.bin .gtr (.t 28) (.c zi6))), sm 30 (.v (.build [zu3, zu3, zu3, zu3, zu3, zu3, zu3, zu3, zu3, zu3, zu3, zu3, zu3, zu3, zu3, zu3, zu3, zu3, zu3, zu3, zu3, zu3, zu3, zu3, zu3, zu3, (.bool false), (.bool false), (.bool false), zi6] [(0, 1, (.t 27)), (27, 1, (.t 29))])), sm 9 (.h (.alloc [zu3, zu3, zu3, zu3, zu3, zu3, zu3, zu3, zu3, zu3, zu3, zu3, zu3, zu3, zu3, zu3, zu3, zu3, zu3, zu3, zu3, zu3, zu3, zu3, zu3, zu3, (.bool false), (.bool false), (.bool false), zi6])), st 30 9 30])
 (.seq (.reg [mv 31 8, sm 32 (.p (.convw .u32 (.t 31))), fa 33 17 9, sm 34 (.p (.idxA 1 (some 9) (.t 33) (.c (.int .i64 8)))), st 1 34 32])
 (.reg [mv 35 7, la 36 30 9, sm 37 (.d (.bslice 30 1 [zu3, zu3, zu3, zu3, zu3, zu3, zu3, zu3, zu3, zu3, zu3, zu3, zu3, zu3, zu3, zu3, zu3, zu3, zu3, zu3, zu3, zu3, zu3, zu3, zu3, zu3, (.bool false), (.bool false), (.bool false), zi6] [(0, (.t 36))])), sm 38 (.l (.append 30 120 (.t 35) (.t 37))), mv 7 38])))))
 (.reg [sm 39 (.p (.bin .add (.t 22) (.c (.int .i64 1)))), mv 22 39])))))))
 (.seq (.reg [mv 40 7, mv 4 40, sm 5 (.p (.mov (.c zi6)))])
 .ret))))))
def rs32 : List AR := [.tmp 4, .tmp 5]
theorem ok32 : okF Tryz.prog 32 41 ac32 rs32 = true := by kernel_rfl
def ac33 : AC := (.seq (.reg [sm 1 (.h (.box (.t 0))), sm 2 (.h (.alloc [.nils])), sm 3 (.p (.mov (.c zi6)))])
 (.seq (.seq (.reg [la 9 4 1, sm 10 (.call 49 [(.t 9)]), mv 4 10])
 (.seq (.reg [mv 11 4, sm 12 (.p (.bin .neq (.t 11) (.c zi6)))])
 (.cond (.t 12) (.seq (.reg [sm 13 (.v (.build [.nils] [])), mv 14 4, st 1 2 13, mv 3 14])
 .ret) .skip)))
 (.seq (.reg [fa 16 1 1, ld 17 16, sm 18 (.call 50 [(.t 17)]), mv 15 18, sm 19 (.p (.extract 0 (.t 15))), sm 20 (.p (.extract 1 (.t 15))), sm 5 (.h (.alloc [.nils])), st 1 5 19, mv 6 20])
 (.seq (.seq (.reg [fa 21 2 1, ld 22 21, sm 23 (.p (.len false (.t 22))), sm 24 (.p (.mov (.c zi6)))])
 (.block 0 (.loop (.seq (.reg [sm 25 (.p (.bin .lss (.t 24) (.t 23)))])
 (.seq (.cond (.t 25) .skip (.exit 0))
 (.seq (.block 1 (.seq (.reg [sm 26 (.p (.idxA 2 none (.t 22) (.t 24))), la 27 2 26, sm 8 (.h (.alloc [zi6, (.str .empty)])), st 2 8 27])
 (.reg [la 29 1 5, fa 30 0 8, ld 31 30, fa 32 1 8, ld 33 32, sm 34 (.call 51 [(.t 29), (.t 31), (.t 33)]), mv 28 34, sm 35 (.p (.extract 0 (.t 28))), sm 36 (.p (.extract 1 (.t 28))), st 1 5 35])))
 (.reg [sm 37 (.p (.bin .add (.t 24) (.c (.int .i64 1)))), mv 24 37])))))))
 (.seq (.reg [la 38 1 5, mv 39 6, st 1 2 38, mv 3 39])
 .ret)))))
def rs33 : List AR := [.cell 2 true 1, .tmp 3]
theorem ok33 : okF Tryz.prog 33 40 ac33 rs33 = true := by kernel_rfl
def ac34 : AC := (.seq (.reg [sm 4 (.h (.alloc [zi6, zu3, zu3, zu3, zu3, zu3, zu3, zu3, zu3, zi6, zi6, zi6, zi6, zi6, zi6, (.bool false), (.bool false), (.bool false), (.bool false), zi6, zi6, zi6, zi6, zi6, zi6, zi6, zi6, (.str .empty), zi6, zu3, zu3, zi6, zi6, .nils, .nils, zu3, zu3, zu3, zu3, zi6, zi6, zi6, zi6])), sm 5 (.p (.mov (.c zi6)))])
 (.seq (.reg [mv 10 0, sm 11 (.call 52 [(.t 10)]), mv 9 11, sm 12 (.p (.extract 0 (.t 9))), sm 13 (.p (.extract 1 (.t 9))), sm 6 (.h (.alloc [zi6, zu3, zu3, zu3, zu3, zu3, zu3, zu3, zu3, zi6, zi6, zi6, zi6, zi6])), st 14 6 12, mv 7 13])
 (.seq (.seq (.reg [mv 14 7, sm 15 (.p (.bin .neq (.t 14) (.c zi6)))])
 (.cond (.t 15) (.seq (.reg [sm 16 (.v (.build [zi6, zu3, zu3, zu3, zu3, zu3, zu3, zu3, zu3, zi6, zi6, zi6, zi6, zi6, zi6, (.bool false), (.bool false), (.bool false), (.bool false), zi6, zi6, zi6, zi6, zi6, zi6, zi6, zi6, (.str .empty), zi6, zu3, zu3, zi6, zi6, .nils, .nils, zu3, zu3, zu3, zu3, zi6, zi6, zi6, zi6] [])), mv 17 7, st 43 4 16, mv 5 17])
 .ret) .skip))
 (.seq (.reg [mv 19 1, sm 20 (.call 53 [(.t 19)]), mv 18 20, sm 21 (.p (.extract 0 (.t 18))), sm 22 (.p (.extract 1 (.t 18))), sm 8 (.h (.alloc [zu3, zu3, zi6, zi6, .nils, .nils])), st 6 8 21, mv 7 22])
 (.seq (.seq (.reg [mv 23 7, sm 24 (.p (.bin .neq (.t 23) (.c zi6)))])
 (.cond (.t 24) (.seq (.reg [sm 25 (.v (.build [zi6, zu3, zu3, zu3, zu3, zu3, zu3, zu3, zu3, zi6, zi6, zi6, zi6, zi6, zi6, (.bool false), (.bool false), (.bool false), (.bool false), zi6, zi6, zi6, zi6, zi6, zi6, zi6, zi6, (.str .empty), zi6, zu3, zu3, zi6, zi6, .nils, .nils, zu3, zu3, zu3, zu3, zi6, zi6, zi6, zi6] [])), mv 26 7, st 43 4 25, mv 5 26])
 .ret) .skip))
 (.seq (.reg [la 27 14 6, la 28 6 8, sm 29 (.v (.build [zi6, zu3, zu3, zu3, zu3, zu3, zu3, zu3, zu3, zi6, zi6, zi6, zi6, zi6, zi6, (.bool false), (.bool false), (.bool false), (.bool false), zi6, zi6, zi6, zi6, zi6, zi6, zi6, zi6, (.str .empty), zi6, zu3, zu3, zi6, zi6, .nils, .nils, zu3, zu3, zu3, zu3, zi6, zi6, zi6, zi6] [(0, 14, (.t 27)), (29, 6, (.t 28))])), st 43 4 29, sm 5 (.p (.mov (.c zi6)))])
 .ret))))))
def rs34 : List AR := [.cell 4 true 43, .tmp 5]
theorem ok34 : okF Tryz.prog 34 30 ac34 rs34 = true := by kernel_rfl
def ac35 : AC := (.seq (.reg [sm 2 (.h (.box (.t 0))), sm 4 (.h (.alloc [.nils, zi6]))])
 (.seq (.reg [la 9 4 2, sm 10 (.call 54 [(.t 9)]), mv 5 10])
 (.seq (.seq (.reg [mv 11 5, sm 12 (.p (.bin .neq (.t 11) (.c zi6)))])
 (.cond (.t 12) (.seq (.reg [mv 13 5, sm 14 (.v (.build [.nils, zi6] [(1, 1, (.t 13))])), st 2 4 14])
 .ret) .skip))
 (.seq (.seq (.reg [mv 15 1, sm 16 (.p (.bin .lss (.t 15) (.c (.int .i64 1)))), mv 17 16, ⟨some 18, .p (.mov (.t 1)), (some (17, false))⟩, ⟨some 19, .p (.bin .gtr (.t 18) (.c (.int .i64 4))), (some (17, false))⟩, sm 20 (.p (.pick (.t 17) (.c (.bool true)) (.t 19)))])
 (.cond (.t 20) (.seq (.reg [sm 21 (.v (.build [.nils, zi6] [(1, 1, (.c (.int .i64 1)))])), st 2 4 21])
 .ret) .skip))
 (.seq (.reg [sm 6 (.p (.mov (.c .nils)))])
 (.seq (.seq (.reg [sm 7 (.p (.mov (.c zi6)))])
 (.block 0 (.loop (.seq (.seq (.reg [mv 22 7, mv 23 1, sm 24 (.p (.bin .lss (.t 22) (.t 23)))])
 (.cond (.t 24) .skip (.exit 0)))
 (.seq (.block 1 (.seq (.reg [fa 27 0 2, ld 28 27, sm 29 (.p (.convw .u32 (.t 28))), mv 30 7, sm 31 (.p (.bin .gtr (.t 30) (.c zi6))), sm 32 (.v (.build [zu3, zu3, zu3, zu3, zu3, zu3, zu3, zu3, zu3, zu3, zu3, zu3, zu3, zu3, zu3, zu3, zu3, zu3, zu3, zu3, zu3, zu3, zu3, zu3, zu3, zu3, (.bool false), (.bool false), (.bool false), zi6] [(0, 1, (.t 29)), (27, 1, (.t 31))])), sm 8 (.h (.alloc [zu3, zu3, zu3, zu3, zu3, zu3, zu3, zu3, zu3, zu3, zu3, zu3, zu3, zu3, zu3, zu3, zu3, zu3, zu3, zu3, zu3, zu3, zu3, zu3, zu3, zu3, (.bool false), (.bool false), (.bool false), zi6])), st 30 8 32])
 (.seq (.reg [mv 33 7, sm 34 (.p (.convw .u32 (.t 33))), fa 35 17 8, sm 36 (.p (.idxA 1 (some 9) (.t 35) (.c (.int .i64 8)))), st 1 36 34])
 (.reg [mv 37 6, la 38 30 8, sm 39 (.d (.bslice 30 1 [zu3, zu3, zu3, zu3, zu3, zu3, zu3, zu3, zu3, zu3, zu3, zu3, zu3, zu3, zu3, zu3, zu3, zu3, zu3, zu3, zu3, zu3, zu3, zu3, zu3, zu3, (.bool false), (.bool false), (.bool false), zi6] [(0, (.t 38))])), sm 40 (.l (.append 30 120 (.t 37) (.t 39))), mv 6 40]))))
 (.reg [mv 25 7, sm 26 (.p (.bin .add (.t 25) (.c (.int .i64 1)))), mv 7 26]))))))
 (.seq (.reg [mv 41 6, sm 42 (.v (.build [.nils, zi6] [(0, 1, (.t 41))])), st 2 4 42])
 .ret)))))))
def rs35 : List AR := [.cell 4 true 2]
theorem ok35 : okF Tryz.prog 35 43 ac35 rs35 = true := by kernel_rfl
def ac36 : AC := (.seq (.reg [sm 4 (.h (.alloc [zi6, zu3, zu3, zu3, zu3, zu3, zu3, zu3, zu3, zi6, zi6, zi6, zi6, zi6, zi6, (.bool false), (.bool false), (.bool false), (.bool false), zi6, zi6, zi6, zi6, zi6, zi6, zi6, zi6, (.str .empty), zi6, zu3, zu3, zi6, zi6, .nils, .nils, zu3, zu3, zu3, zu3, zi6, zi6, zi6, zi6, .nils, zi6]))])
 (.seq (.reg [mv 6 0, sm 7 (.v (.build [zi6, zu3, zu3, zu3, zu3, zu3, zu3, zu3, zu3, zi6, zi6, zi6, zi6, zi6] [(0, 1, (.t 6))])), mv 8 1, sm 9 (.v (.build [zu3, zu3, zi6, zi6, .nils, .nils] [(4, 1, (.t 8))])), sm 10 (.v (.build [zi6, zu3, zu3, zu3, zu3, zu3, zu3, zu3, zu3, zi6, zi6, zi6, zi6, zi6, zi6, (.bool false), (.bool false), (.bool false), (.bool false), zi6, zi6, zi6, zi6, zi6, zi6, zi6, zi6, (.str .empty), zi6, zu3, zu3, zi6, zi6, .nils, .nils, zu3, zu3, zu3, zu3, zi6, zi6, zi6, zi6] [(0, 14, (.t 7)), (29, 6, (.t 9))])), sm 5 (.h (.alloc [zi6, zu3, zu3, zu3, zu3, zu3, zu3, zu3, zu3, zi6, zi6, zi6, zi6, zi6, zi6, (.bool false), (.bool false), (.bool false), (.bool false), zi6, zi6, zi6, zi6, zi6, zi6, zi6, zi6, (.str .empty), zi6, zu3, zu3, zi6, zi6, .nils, .nils, zu3, zu3, zu3, zu3, zi6, zi6, zi6, zi6])), st 43 5 10])
 (.seq (.seq (.reg [fa 11 0 5, la 12 14 11, sm 13 (.call 55 [(.t 12)]), sm 14 (.p (.un .not (.t 13)))])
 (.cond (.t 14) (.seq (.reg [sm 15 (.v (.build [zi6, zu3, zu3, zu3, zu3, zu3, zu3, zu3, zu3, zi6, zi6, zi6, zi6, zi6, zi6, (.bool false), (.bool false), (.bool false), (.bool false), zi6, zi6, zi6, zi6, zi6, zi6, zi6, zi6, (.str .empty), zi6, zu3, zu3, zi6, zi6, .nils, .nils, zu3, zu3, zu3, zu3, zi6, zi6, zi6, zi6, .nils, zi6] [(44, 1, (.c (.int .i64 1)))])), st 45 4 15])
 .ret) .skip))
 (.seq (.seq (.reg [mv 16 1, sm 17 (.p (.len false (.t 16))), sm 18 (.p (.bin .gtr (.t 17) (.c (.int .i64 64))))])
 (.cond (.t 18) (.seq (.reg [sm 19 (.v (.build [zi6, zu3, zu3, zu3, zu3, zu3, zu3, zu3, zu3, zi6, zi6, zi6, zi6, zi6, zi6, (.bool false), (.bool false), (.bool false), (.bool false), zi6, zi6, zi6, zi6, zi6, zi6, zi6, zi6, (.str .empty), zi6, zu3, zu3, zi6, zi6, .nils, .nils, zu3, zu3, zu3, zu3, zi6, zi6, zi6, zi6, .nils, zi6] [(44, 1, (.c (.int .i64 2)))])), st 45 4 19])
 .ret) .skip))
 (.seq (.reg [la 20 43 5, sm 21 (.v (.build [zi6, zu3, zu3, zu3, zu3, zu3, zu3, zu3, zu3, zi6, zi6, zi6, zi6, zi6, zi6, (.bool false), (.bool false), (.bool false), (.bool false), zi6, zi6, zi6, zi6, zi6, zi6, zi6, zi6, (.str .empty), zi6, zu3, zu3, zi6, zi6, .nils, .nils, zu3, zu3, zu3, zu3, zi6, zi6, zi6, zi6, .nils, zi6] [(0, 43, (.t 20))])), st 45 4 21])
 .ret)))))
def rs36 : List AR := [.cell 4 true 45]
theorem ok36 : okF Tryz.prog 36 22 ac36 rs36 = true := by kernel_rfl
def ac37 : AC := (.seq (.reg [sm 1 (.h (.box (.t 0))), sm 2 (.h (.alloc [.nils, zi6]))])
 (.seq (.reg [la 7 4 1, sm 8 (.call 54 [(.t 7)]), mv 3 8])
 (.seq (.seq (.reg [mv 9 3, sm 10 (.p (.bin .neq (.t 9) (.c zi6)))])
 (.cond (.t 10) (.seq (.reg [mv 11 3, sm 12 (.v (.build [.nils, zi6] [(1, 1, (.t 11))])), st 2 2 12])
 .ret) .skip))
 (.seq (.reg [fa 13 1 1, ld 14 13, sm 15 (.l (.make 128 128 [zu8, zu8, zu8, zu8, zu8, zu8, zu8, zu8, zu8, zu8, zu8, zu8, zu8, zu8, zu8, zu8, zu8, zu8, zu8, zu8, zu8, zu8, zu8, zu8, zu8, zu8, zu8, zu8, zu8, zu8, zu8, zu8, zu8, zu8, zu8, zu8, zu8, zu8, zu8, zu8, zu8, zu8, zu8, zu8, zu8, zu8, zu8, zu8, zu8, zu8, zu8, zu8, zu8, zu8, zu8, zu8, zu8, zu8, zu8, zu8, zu8, zu8, zu8, zu8, zu8, zu8, zu8, zu8, zu8, zu8, zu8, zu8, zu8, zu8, zu8, zu8, zu8, zu8, zu8, zu8, zu8, zu8, zu8, zu8, zu8, zu8, zu8, zu8, zu8, zu8, zu8, zu8, zu8, zu8, zu8, zu8, zu8, zu8, zu8, zu8, zu8, zu8, zu8, zu8, zu8, zu8, zu8, zu8, zu8, zu8, zu8, zu8, zu8, zu8, zu8, zu8, zu8, zu8, zu8, zu8, zu8, zu8, zu8, zu8, zu8, zu8, zu8, zu8] (.t 14))), sm 16 (.v (.build [.nils] [(0, 1, (.t 15))])), sm 4 (.h (.alloc [.nils])), st 1 4 16])
 (.seq (.seq (.reg [sm 5 (.p (.mov (.c zi6)))])
 (.block 0 (.loop (.seq (.seq (.reg [mv 17 5, fa 18 2 1, ld 19 18, sm 20 (.p (.len false (.t 19))), sm 21 (.p (.bin .lss (.t 17) (.t 20)))])
 (.cond (.t 21) .skip (.exit 0)))
 (.seq (.block 1 (.seq (.draw 16 [(14, 15), (13, 15), (0, 15), (2, 15), (6, 15), (8, 15), (12, 15)] [la 24 1 4, fa 25 2 1, ld 26 25, mv 27 5, sm 28 (.p (.idxA 2 none (.t 26) (.t 27))), fa 29 0 28, ld 30 29, fa 31 2 1, ld 32 31, mv 33 5, sm 34 (.p (.idxA 2 none (.t 32) (.t 33))), fa 35 1 34, ld 36 35, sm 37 (.call 56 [(.t 24), (.t 30), (.t 36)]), sm 6 (.h (.alloc [.nils, (.bool false)])), st 2 6 37])
 (.reg [fa 38 0 6, la 39 1 38, st 1 4 39])))
 (.reg [mv 22 5, sm 23 (.p (.bin .add (.t 22) (.c (.int .i64 1)))), mv 5 23]))))))
 (.seq (.reg [la 40 1 4, sm 41 (.v (.build [.nils, zi6] [(0, 1, (.t 40))])), st 2 2 41])
 .ret))))))
def rs37 : List AR := [.cell 2 true 2]
theorem ok37 : okF Tryz.prog 37 42 ac37 rs37 = true := by kernel_rfl
def ac38 : AC := (.seq (.reg [sm 2 (.h (.box (.t 0))), sm 3 (.h (.box (.t 1))), sm 4 (.p (.mov (.c (.bool false))))])
 (.seq (.reg [la 5 1 2, la 6 1 3, sm 7 (.call 57 [(.t 5), (.t 6)]), sm 8 (.p (.len false (.t 7))), sm 9 (.p (.bin .eql (.t 8) (.c zi6))), mv 4 9])
 .ret))
def rs38 : List AR := [.tmp 4]
theorem ok38 : okF Tryz.prog 38 10 ac38 rs38 = true := by kernel_rfl
def ac39 : AC := (.seq (.reg [sm 2 (.h (.box (.t 0))), sm 3 (.h (.box (.t 1))), sm 4 (.p (.mov (.c (.bool false))))])
 (.seq (.reg [fa 5 0 2, la 6 14 5, fa 7 0 3, la 8 14 7, sm 9 (.v (.eqa false [(.i .i64), (.i .u32), (.i .u32), (.i .u32), (.i .u32), (.i .u32), (.i .u32), (.i .u32), (.i .u32), (.i .i64), (.i .i64), (.i .i64), (.i .i64), (.i .i64)] (.t 6) (.t 8))), mv 10 9, ⟨some 11, .p (.fieldA 14 (.t 2)), (some (10, true))⟩, ⟨some 12, .h (.load true 13 (.t 11)), (some (10, true))⟩, ⟨some 13, .p (.fieldA 14 (.t 3)), (some (10, true))⟩, ⟨some 14, .h (.load true 13 (.t 13)), (some (10, true))⟩, ⟨some 15, .v (.eqa false [(.i .i64), .b, .b, .b, .b, (.i .i64), (.i .i64), (.i .i64), (.i .i64), (.i .i64), (.i .i64), (.i .i64), (.i .i64)] (.t 12) (.t 14)), (some (10, true))⟩, sm 16 (.p (.pick (.t 10) (.t 15) (.c (.bool false)))), mv 17 16, ⟨some 18, .p (.fieldA 27 (.t 2)), (some (17, true))⟩, ⟨some 19, .h (.load true 2 (.t 18)), (some (17, true))⟩, ⟨some 20, .p (.fieldA 27 (.t 3)), (some (17, true))⟩, ⟨some 21, .h (.load true 2 (.t 20)), (some (17, true))⟩, ⟨some 22, .v (.eqa false [.s, (.i .i64)] (.t 19) (.t 21)), (some (17, true))⟩, sm 23 (.p (.pick (.t 17) (.t 22) (.c (.bool false)))), mv 24 23, ⟨some 25, .p (.fieldA 35 (.t 2)), (some (24, true))⟩, ⟨some 26, .h (.load true 8 (.t 25)), (some (24, true))⟩, ⟨some 27, .p (.fieldA 35 (.t 3)), (some (24, true))⟩, ⟨some 28, .h (.load true 8 (.t 27)), (some (24, true))⟩, ⟨some 29, .v (.eqa false [(.i .u32), (.i .u32), (.i .u32), (.i .u32), (.i .i64), (.i .i64), (.i .i64), (.i .i64)] (.t 26) (.t 28)), (some (24, true))⟩, sm 30 (.p (.pick (.t 24) (.t 29) (.c (.bool false)))), mv 31 30, ⟨some 32, .p (.fieldA 29 (.t 2)), (some (31, true))⟩, ⟨some 33, .h (.load true 6 (.t 32)), (some (31, true))⟩, ⟨some 34, .p (.fieldA 29 (.t 3)), (some (31, true))⟩, ⟨some 35, .h (.load true 6 (.t 34)), (some (31, true))⟩, ⟨some 36, .call 58 [(.t 33), (.t 35)], (some (31, true))⟩, sm 37 (.p (.pick (.t 31) (.t 36) (.c (.bool false)))), mv 4 37])
 .ret))
def rs39 : List AR := [.tmp 4]
theorem ok39 : okF Tryz.prog 39 38 ac39 rs39 = true := by kernel_rfl
def ac40 : AC := (.seq (.reg [sm 4 (.p (.mov (.c (.bool false))))])
 (.seq (.seq (.reg [mv 6 0, sm 7 (.p (.len false (.t 6))), mv 8 1, sm 9 (.p (.len false (.t 8))), sm 10 (.p (.bin .neq (.t 7) (.t 9)))])
 (.cond (.t 10) (.seq (.reg [sm 4 (.p (.mov (.c (.bool false))))])
 .ret) .skip))
 (.seq (.seq (.reg [sm 5 (.p (.mov (.c zi6)))])
 (.block 0 (.loop (.seq (.seq (.reg [mv 11 5, mv 12 0, sm 13 (.p (.len false (.t 12))), sm 14 (.p (.bin .lss (.t 11) (.t 13)))])
 (.cond (.t 14) .skip (.exit 0)))
 (.seq (.block 1 (.seq (.draw 9 [] [mv 17 0, mv 18 5, sm 19 (.p (.idxA 5 none (.t 17) (.t 18))), la 20 5 19, mv 21 1, mv 22 5, sm 23 (.p (.idxA 5 none (.t 21) (.t 22))), la 24 5 23, sm 25 (.v (.eqa true [(.i .i64), (.i .i64), (.i .i64), (.i .i64), .s] (.t 20) (.t 24)))])
 (.cond (.t 25) (.seq (.reg [sm 4 (.p (.mov (.c (.bool false))))])
 .ret) .skip)))
 (.reg [mv 15 5, sm 16 (.p (.bin .add (.t 15) (.c (.int .i64 1)))), mv 5 16]))))))
 (.seq (.reg [sm 4 (.p (.mov (.c (.bool true))))])
 .ret))))
def rs40 : List AR := [.tmp 4]
theorem ok40 : okF Tryz.prog 40 26 ac40 rs40 = true := by kernel_rfl
def ac41 : AC := (.seq (.reg [sm 2 (.h (.box (.t 0))), sm 3 (.h (.box (.t 1))), sm 4 (.h (.alloc [.nils, .nils, zi6, zu3, zu3, zu3, zu3, zu3, zu3, zu3, zu3, zi6, zi6, zi6, zi6, zi6, zi6, (.bool false), (.bool false), (.bool false), (.bool false), zi6, zi6, zi6, zi6, zi6, zi6, zi6, zi6, (.str .empty), zi6, zu3, zu3, zi6, zi6, .nils, .nils, zu3, zu3, zu3, zu3, zi6, zi6, zi6, zi6, .nils, zi6])), sm 5 (.p (.mov (.c zi6))), sm 6 (.p (.mov (.c zi6)))])
 (.seq (.reg [la 10 47 2, sm 11 (.v (.build [.nils, .nils, zi6, zu3, zu3, zu3, zu3, zu3, zu3, zu3, zu3, zi6, zi6, zi6, zi6, zi6, zi6, (.bool false), (.bool false), (.bool false), (.bool false), zi6, zi6, zi6, zi6, zi6, zi6, zi6, zi6, (.str .empty), zi6, zu3, zu3, zi6, zi6, .nils, .nils, zu3, zu3, zu3, zu3, zi6, zi6, zi6, zi6, .nils, zi6] [(0, 47, (.t 10))])), sm 12 (.h (.box (.t 11))), mv 7 12])
 (.seq (.reg [mv 14 7, la 15 5 3, sm 16 (.call 59 [(.t 14), (.t 15)]), mv 13 16, sm 17 (.p (.extract 0 (.t 13))), sm 18 (.p (.extract 1 (.t 13))), mv 8 17, mv 9 18])
 (.seq (.reg [mv 19 7, sm 20 (.p (.nilchk (.t 19))), fa 21 0 20, la 22 47 21, mv 23 8, mv 24 9, st 47 4 22, mv 5 23, mv 6 24])
 .ret))))
def rs41 : List AR := [.cell 4 true 47, .tmp 5, .tmp 6]
theorem ok41 : okF Tryz.prog 41 25 ac41 rs41 = true := by kernel_rfl
def ac42 : AC := (.seq (.reg [sm 6 (.h (.box (.t 2))), sm 7 (.h (.box (.t 3)))])
 (.seq (.seq (.draw 15 [] [fa 12 45 7, ld 13 12, mv 14 0, sm 15 (.p (.nilchk (.t 14))), fa 16 0 15, fa 17 0 16, ld 18 17, mv 19 1, sm 20 (.p (.idxA 47 none (.t 18) (.t 19))), fa 21 45 20, ld 22 21, sm 23 (.p (.len false (.t 22))), sm 24 (.v (.sub 5 (.t 13) (some (.t 23)) none none)), sm 25 (.p (.len false (.t 24))), sm 26 (.p (.mov (.c zi6)))])
 (.block 0 (.loop (.seq (.reg [sm 27 (.p (.bin .lss (.t 26) (.t 25)))])
 (.seq (.cond (.t 27) .skip (.exit 0))
 (.seq (.block 1 (.seq (.reg [sm 28 (.p (.idxA 5 none (.t 24) (.t 26))), la 29 5 28, sm 9 (.h (.alloc [zi6, zi6, zi6, zi6, (.str .empty)])), st 5 9 29])
 (.seq (.reg [mv 30 0, sm 31 (.p (.nilchk (.t 30))), fa 32 0 31, fa 33 1 32, ld 34 33, sm 35 (.p (.len false (.t 34))), sm 36 (.p (.mov (.c zi6)))])
 (.block 2 (.loop (.seq (.reg [sm 37 (.p (.bin .lss (.t 36) (.t 35)))])
 (.seq (.cond (.t 37) .skip (.exit 2))
 (.seq (.block 3 (.seq (.reg [mv 38 36, sm 39 (.p (.idxA 2 none (.t 34) (.t 36))), la 40 2 39, sm 11 (.h (.alloc [zi6, zi6])), mv 10 38, st 2 11 40])
 (.seq (.reg [fa 41 0 11, ld 42 41, mv 43 1, sm 44 (.p (.bin .eql (.t 42) (.t 43))), mv 45 44, ⟨some 46, .p (.fieldA 1 (.t 9)), (some (45, true))⟩, ⟨some 47, .h (.load false 1 (.t 46)), (some (45, true))⟩, ⟨some 48, .p (.bin .eql (.t 47) (.c (.int .i64 2))), (some (45, true))⟩, sm 49 (.p (.pick (.t 45) (.t 48) (.c (.bool false))))])
 (.cond (.t 49) (.draw 15 [(10, 14), (5, 14), (8, 14)] [mv 50 0, mv 51 0, sm 52 (.p (.nilchk (.t 51))), fa 53 0 52, fa 54 2 53, ld 55 54, mv 56 10, fa 57 4 9, ld 58 57, sm 59 (.v (.build [(.bool false), (.str .empty)] [(1, 1, (.t 58))])), sm 60 (.call 60 [(.t 55), (.t 56), (.t 59)]), sm 61 (.p (.nilchk (.t 50))), fa 62 0 61, fa 63 2 62, st 1 63 60]) .skip))))
 (.reg [sm 64 (.p (.bin .add (.t 36) (.c (.int .i64 1)))), mv 36 64])))))))))
 (.reg [sm 65 (.p (.bin .add (.t 26) (.c (.int .i64 1)))), mv 26 65])))))))
 (.seq (.draw 13 [(8, 12), (5, 12), (7, 12)] [mv 66 0, mv 67 0, sm 68 (.p (.nilchk (.t 67))), fa 69 0 68, fa 70 0 69, ld 71 70, mv 72 1, la 73 47 7, sm 74 (.call 61 [(.t 71), (.t 72), (.t 73)]), sm 75 (.p (.nilchk (.t 66))), fa 76 0 75, fa 77 0 76, st 1 77 74])
 (.draw 13 [(8, 12), (5, 12), (7, 12)] [mv 78 0, mv 79 0, sm 80 (.p (.nilchk (.t 79))), fa 81 0 80, fa 82 3 81, ld 83 82, mv 84 1, la 85 5 6, sm 86 (.call 62 [(.t 83), (.t 84), (.t 85)]), sm 87 (.p (.nilchk (.t 78))), fa 88 0 87, fa 89 3 88, st 1 89 86]))))
def rs42 : List AR := []
theorem ok42 : okF Tryz.prog 42 90 ac42 rs42 = true := by kernel_rfl
def ac43 : AC := (.seq (.reg [sm 6 (.p (.mov (.c .nils)))])
 (.seq (.reg [mv 8 0, sm 9 (.call 63 [(.t 8)]), mv 7 9])
 (.seq (.reg [mv 10 7, mv 11 1, mv 12 2, sm 13 (.p (.idxA 1 none (.t 10) (.t 11))), st 1 13 12])
 (.seq (.reg [mv 14 7, mv 6 14])
 .ret))))
def rs43 : List AR := [.tmp 6]
theorem ok43 : okF Tryz.prog 43 15 ac43 rs43 = true := by kernel_rfl
def ac44 : AC := (.seq (.seq (.reg [mv 6 0, sm 7 (.p (.nilchk (.t 6))), fa 8 0 7, fa 9 4 8, fa 10 1 9, ld 11 10, mv 12 2, sm 13 (.p (.idxA 1 none (.t 11) (.t 12))), ld 14 13, sm 15 (.p (.un .not (.t 14)))])
 (.cond (.t 15) (.reg [mv 16 0, mv 17 2, sm 18 (.call 47 [(.t 16), (.t 17)])]) .skip))
 (.reg [mv 19 0, mv 20 0, sm 21 (.p (.nilchk (.t 20))), fa 22 0 21, fa 23 4 22, fa 24 3 23, ld 25 24, mv 26 1, sm 27 (.call 64 [(.t 25), (.t 26), (.c (.bool true))]), sm 28 (.p (.nilchk (.t 19))), fa 29 0 28, fa 30 4 29, fa 31 3 30, st 1 31 27]))
def rs44 : List AR := []
theorem ok44 : okF Tryz.prog 44 32 ac44 rs44 = true := by kernel_rfl
def ac45 : AC := (.seq (.reg [sm 2 (.h (.box (.t 0))), sm 3 (.h (.box (.t 1))), sm 4 (.h (.alloc [.nils, .nils, zi6, zu3, zu3, zu3, zu3, zu3, zu3, zu3, zu3, zi6, zi6, zi6, zi6, zi6, zi6, (.bool false), (.bool false), (.bool false), (.bool false), zi6, zi6, zi6, zi6, zi6, zi6, zi6, zi6, (.str .empty), zi6, zu3, zu3, zi6, zi6, .nils, .nils, zu3, zu3, zu3, zu3, zi6, zi6, zi6, zi6, .nils, zi6])), sm 5 (.p (.mov (.c zi6)))])
 (.seq (.reg [la 9 47 2, sm 10 (.v (.build [.nils, .nils, zi6, zu3, zu3, zu3, zu3, zu3, zu3, zu3, zu3, zi6, zi6, zi6, zi6, zi6, zi6, (.bool false), (.bool false), (.bool false), (.bool false), zi6, zi6, zi6, zi6, zi6, zi6, zi6, zi6, (.str .empty), zi6, zu3, zu3, zi6, zi6, .nils, .nils, zu3, zu3, zu3, zu3, zi6, zi6, zi6, zi6, .nils, zi6] [(0, 47, (.t 9))])), sm 11 (.h (.box (.t 10))), mv 6 11])
 (.seq (.reg [mv 13 6, la 14 5 3, sm 15 (.call 65 [(.t 13), (.t 14)]), mv 12 15, sm 16 (.p (.extract 0 (.t 12))), sm 17 (.p (.extract 1 (.t 12))), mv 7 16, mv 8 17])
 (.seq (.reg [mv 18 6, sm 19 (.p (.nilchk (.t 18))), fa 20 0 19, la 21 47 20, mv 22 8, st 47 4 21, mv 5 22])
 .ret))))
def rs45 : List AR := [.cell 4 true 47, .tmp 5]
theorem ok45 : okF Tryz.prog 45 23 ac45 rs45 = true := by kernel_rfl
def ac46 : AC := (.seq (.reg [sm 6 (.p (.mov (.c .nils)))])
 (.seq (.reg [mv 8 0, sm 9 (.call 66 [(.t 8)]), mv 7 9])
 (.seq (.reg [mv 10 7, mv 11 1, mv 12 7, mv 13 1, sm 14 (.p (.idxA 1 none (.t 12) (.t 13))), ld 15 14, sm 16 (.call 67 [(.t 15)]), mv 17 2, sm 18 (.d (.bslice 1 1 [(.str .empty)] [(0, (.t 17))])), sm 19 (.l (.append 1 16 (.t 16) (.t 18))), sm 20 (.p (.idxA 1 none (.t 10) (.t 11))), st 1 20 19])
 (.seq (.reg [mv 21 7, mv 6 21])
 .ret))))
def rs46 : List AR := [.tmp 6]
theorem ok46 : okF Tryz.prog 46 22 ac46 rs46 = true := by kernel_rfl
def ac47 : AC := (.seq (.reg [mv 7 0, sm 8 (.p (.nilchk (.t 7))), fa 9 0 8, fa 10 0 9, ld 11 10, mv 12 1, sm 13 (.p (.idxA 47 none (.t 11) (.t 12))), la 14 47 13, sm 4 (.h (.alloc [.nils, .nils, zi6, zu3, zu3, zu3, zu3, zu3, zu3, zu3, zu3, zi6, zi6, zi6, zi6, zi6, zi6, (.bool false), (.bool false), (.bool false), (.bool false), zi6, zi6, zi6, zi6, zi6, zi6, zi6, zi6, (.str .empty), zi6, zu3, zu3, zi6, zi6, .nils, .nils, zu3, zu3, zu3, zu3, zi6, zi6, zi6, zi6, .nils, zi6])), st 47 4 14])
 (.seq (.reg [fa 15 45 4, ⟨none, .h (.store 1 (.t 15) (.c .nils)), none⟩])
 (.seq (.draw 29 [(9, 23), (18, 23), (7, 23), (15, 23), (17, 23), (18, 28), (23, 28), (7, 28), (9, 28), (15, 28), (17, 28)] [mv 16 0, mv 17 0, mv 18 0, sm 19 (.p (.nilchk (.t 18))), fa 20 0 19, fa 21 4 20, fa 22 1 21, ld 23 22, mv 24 1, sm 25 (.call 64 [(.t 23), (.t 24), (.c (.bool true))]), mv 26 0, sm 27 (.p (.nilchk (.t 26))), fa 28 0 27, fa 29 4 28, fa 30 2 29, ld 31 30, mv 32 1, la 33 47 4, sm 34 (.call 61 [(.t 31), (.t 32), (.t 33)]), sm 35 (.p (.nilchk (.t 16))), fa 36 0 35, fa 37 4 36, fa 38 1 37, st 1 38 25, sm 39 (.p (.nilchk (.t 17))), fa 40 0 39, fa 41 4 40, fa 42 2 41, st 1 42 34])
 (.seq (.reg [mv 43 0, sm 44 (.p (.nilchk (.t 43))), fa 45 0 44, fa 46 1 45, ld 47 46, sm 48 (.p (.len false (.t 47))), sm 49 (.p (.mov (.c zi6)))])
 (.block 0 (.loop (.seq (.reg [sm 50 (.p (.bin .lss (.t 49) (.t 48)))])
 (.seq (.cond (.t 50) .skip (.exit 0))
 (.seq (.block 1 (.seq (.reg [mv 51 49, sm 52 (.p (.idxA 2 none (.t 47) (.t 49))), la 53 2 52, sm 6 (.h (.alloc [zi6, zi6])), mv 5 51, st 2 6 53])
 (.seq (.reg [fa 54 0 6, ld 55 54, mv 56 1, sm 57 (.p (.bin .eql (.t 55) (.t 56)))])
 (.cond (.t 57) (.reg [mv 58 0, mv 59 0, sm 60 (.p (.nilchk (.t 59))), fa 61 0 60, fa 62 2 61, ld 63 62, mv 64 5, sm 65 (.v (.build [(.bool false), (.str .empty)] [(0, 1, (.c (.bool true)))])), sm 66 (.call 60 [(.t 63), (.t 64), (.t 65)]), sm 67 (.p (.nilchk (.t 58))), fa 68 0 67, fa 69 2 68, st 1 69 66]) .skip))))
 (.reg [sm 70 (.p (.bin .add (.t 49) (.c (.int .i64 1)))), mv 49 70]))))))))))
def rs47 : List AR := []
theorem ok47 : okF Tryz.prog 47 71 ac47 rs47 = true := by kernel_rfl
def ac48 : AC := (.seq (.reg [sm 4 (.p (.mov (.c zi6)))])
 (.seq (.seq (.reg [mv 6 0, sm 7 (.p (.len false (.t 6))), sm 8 (.p (.mov (.c zi6)))])
 (.block 0 (.loop (.seq (.reg [sm 9 (.p (.bin .lss (.t 8) (.t 7)))])
 (.seq (.cond (.t 9) .skip (.exit 0))
 (.seq (.block 1 (.seq (.reg [mv 10 8, mv 5 10])
 (.seq (.reg [mv 11 1, mv 12 0, mv 13 5, sm 14 (.p (.idxA 1 none (.t 12) (.t 13))), ld 15 14, sm 16 (.p (.beq false (.t 11) (.t 15)))])
 (.cond (.t 16) (.seq (.reg [mv 17 5, mv 4 17])
 .ret) .skip))))
 (.reg [sm 18 (.p (.bin .add (.t 8) (.c (.int .i64 1)))), mv 8 18])))))))
 (.seq (.reg [sm 4 (.p (.mov (.c (.int .i64 (-1)))))])
 .ret)))
def rs48 : List AR := [.tmp 4]
theorem ok48 : okF Tryz.prog 48 19 ac48 rs48 = true := by kernel_rfl
def ac49 : AC := (.seq (.reg [sm 1 (.h (.box (.t 0))), sm 2 (.p (.mov (.c zi6)))])
 (.seq (.reg [fa 7 1 1, ld 8 7, sm 9 (.p (.binw .mul (.t 8) (.c (.int .i64 128)))), mv 3 9])
 (.seq (.block 0 (.seq (.reg [fa 11 1 1, ld 12 11, sm 13 (.p (.bin .lss (.t 12) (.c (.int .i64 1)))), mv 14 13, ⟨some 15, .p (.fieldA 1 (.t 1)), (some (14, false))⟩, ⟨some 16, .h (.load false 1 (.t 15)), (some (14, false))⟩, ⟨some 17, .p (.bin .gtr (.t 16) (.c (.int .i64 64))), (some (14, false))⟩, sm 18 (.p (.pick (.t 14) (.c (.bool true)) (.t 17))), mv 19 18, ⟨some 20, .p (.fieldA 0 (.t 1)), (some (19, false))⟩, ⟨some 21, .h (.load false 1 (.t 20)), (some (19, false))⟩, ⟨some 22, .p (.fieldA 1 (.t 1)), (some (19, false))⟩, ⟨some 23, .h (.load false 1 (.t 22)), (some (19, false))⟩, ⟨some 24, .call 68 [(.t 21), (.t 23)], (some (19, false))⟩, ⟨some 25, .p (.un .not (.t 24)), (some (19, false))⟩, sm 26 (.p (.pick (.t 19) (.c (.bool true)) (.t 25))), mv 10 26])
 (.cond (.t 10) (.seq (.reg [sm 2 (.p (.mov (.c (.int .i64 7))))])
 .ret) (.seq (.reg [fa 28 2 1, ld 29 28, sm 30 (.p (.len false (.t 29))), sm 31 (.p (.bin .gtr (.t 30) (.c (.int .i64 64)))), mv 32 31, ⟨some 33, .p (.fieldA 3 (.t 1)), (some (32, false))⟩, ⟨some 34, .h (.load false 1 (.t 33)), (some (32, false))⟩, ⟨some 35, .p (.len false (.t 34)), (some (32, false))⟩, ⟨some 36, .p (.bin .gtr (.t 35) (.c (.int .i64 64))), (some (32, false))⟩, sm 37 (.p (.pick (.t 32) (.c (.bool true)) (.t 36))), mv 27 37])
 (.cond (.t 27) (.seq (.reg [sm 2 (.p (.mov (.c (.int .i64 2))))])
 .ret) .skip)))))
 (.seq (.reg [sm 4 (.p (.mov (.c zi6)))])
 (.seq (.seq (.reg [fa 38 2 1, ld 39 38, sm 40 (.p (.len false (.t 39))), sm 41 (.p (.mov (.c zi6)))])
 (.block 1 (.loop (.seq (.reg [sm 42 (.p (.bin .lss (.t 41) (.t 40)))])
 (.seq (.cond (.t 42) .skip (.exit 1))
 (.seq (.block 2 (.seq (.reg [sm 43 (.p (.idxA 2 none (.t 39) (.t 41))), la 44 2 43, sm 6 (.h (.alloc [zi6, (.str .empty)])), st 2 6 44])
 (.seq (.seq (.reg [fa 45 1 6, ld 46 45, ⟨some 47, .p (.bin .eql (.t 46) (.c (.str ⟨#[]⟩))), none⟩, mv 48 47, ⟨some 49, .p (.fieldA 0 (.t 6)), (some (48, false))⟩, ⟨some 50, .h (.load false 1 (.t 49)), (some (48, false))⟩, ⟨some 51, .p (.mov (.t 4)), (some (48, false))⟩, ⟨some 52, .p (.bin .lss (.t 50) (.t 51)), (some (48, false))⟩, sm 53 (.p (.pick (.t 48) (.c (.bool true)) (.t 52))), mv 54 53, ⟨some 55, .p (.fieldA 0 (.t 6)), (some (54, false))⟩, ⟨some 56, .h (.load false 1 (.t 55)), (some (54, false))⟩, ⟨some 57, .p (.mov (.t 3)), (some (54, false))⟩, ⟨some 58, .p (.bin .gtr (.t 56) (.t 57)), (some (54, false))⟩, sm 59 (.p (.pick (.t 54) (.c (.bool true)) (.t 58))), mv 60 59, ⟨some 61, .p (.fieldA 1 (.t 6)), (some (60, false))⟩, ⟨some 62, .h (.load false 1 (.t 61)), (some (60, false))⟩, ⟨some 63, .p (.len true (.t 62)), (some (60, false))⟩, ⟨some 64, .p (.mov (.t 3)), (some (60, false))⟩, ⟨some 65, .p (.fieldA 0 (.t 6)), (some (60, false))⟩, ⟨some 66, .h (.load false 1 (.t 65)), (some (60, false))⟩, ⟨some 67, .p (.bin .sub (.t 64) (.t 66)), (some (60, false))⟩, ⟨some 68, .p (.bin .gtr (.t 63) (.t 67)), (some (60, false))⟩, sm 69 (.p (.pick (.t 60) (.c (.bool true)) (.t 68)))])
 (.cond (.t 69) (.seq (.reg [sm 2 (.p (.mov (.c (.int .i64 3))))])
 .ret) .skip))
 (.reg [fa 70 0 6, ld 71 70, fa 72 1 6, ld 73 72, sm 74 (.p (.len true (.t 73))), sm 75 (.p (.bin .add (.t 71) (.t 74))), mv 4 75]))))
 (.reg [sm 76 (.p (.bin .add (.t 41) (.c (.int .i64 1)))), mv 41 76])))))))
 (.seq (.reg [sm 2 (.p (.mov (.c zi6)))])
 .ret))))))
def rs49 : List AR := [.tmp 2]
theorem ok49 : okF Tryz.prog 49 77 ac49 rs49 = true := by kernel_rfl
def ac50 : AC := (.seq (.reg [sm 2 (.h (.alloc [.nils])), sm 3 (.p (.mov (.c zi6)))])
 (.seq (.seq (.reg [mv 4 0, sm 5 (.p (.bin .lss (.t 4) (.c (.int .i64 1)))), mv 6 5, ⟨some 7, .p (.mov (.t 0)), (some (6, false))⟩, ⟨some 8, .p (.bin .gtr (.t 7) (.c (.int .i64 64))), (some (6, false))⟩, sm 9 (.p (.pick (.t 6) (.c (.bool true)) (.t 8)))])
 (.cond (.t 9) (.seq (.reg [sm 10 (.v (.build [.nils] [])), st 1 2 10, sm 3 (.p (.mov (.c (.int .i64 1))))])
 .ret) .skip))
 (.seq (.reg [mv 11 0, sm 12 (.l (.make 128 128 [zu8, zu8, zu8, zu8, zu8, zu8, zu8, zu8, zu8, zu8, zu8, zu8, zu8, zu8, zu8, zu8, zu8, zu8, zu8, zu8, zu8, zu8, zu8, zu8, zu8, zu8, zu8, zu8, zu8, zu8, zu8, zu8, zu8, zu8, zu8, zu8, zu8, zu8, zu8, zu8, zu8, zu8, zu8, zu8, zu8, zu8, zu8, zu8, zu8, zu8, zu8, zu8, zu8, zu8, zu8, zu8, zu8, zu8, zu8, zu8, zu8, zu8, zu8, zu8, zu8, zu8, zu8, zu8, zu8, zu8, zu8, zu8, zu8, zu8, zu8, zu8, zu8, zu8, zu8, zu8, zu8, zu8, zu8, zu8, zu8, zu8, zu8, zu8, zu8, zu8, zu8, zu8, zu8, zu8, zu8, zu8, zu8, zu8, zu8, zu8, zu8, zu8, zu8, zu8, zu8, zu8, zu8, zu8, zu8, zu8, zu8, zu8, zu8, zu8, zu8, zu8, zu8, zu8, zu8, zu8, zu8, zu8, zu8, zu8, zu8, zu8, zu8, zu8] (.t 11))), sm 13 (.v (.build [.nils] [(0, 1, (.t 12))])), st 1 2 13, sm 3 (.p (.mov (.c zi6)))])
 .ret)))
def rs50 : List AR := [.cell 2 true 1, .tmp 3]
theorem ok50 : okF Tryz.prog 50 14 ac50 rs50 = true := by kernel_rfl
def ac51 : AC := (.seq (.reg [sm 3 (.h (.box (.t 0))), sm 6 (.h (.alloc [.nils])), sm 7 (.p (.mov (.c (.bool false))))])
 (.seq (.seq (.reg [mv 9 1, sm 10 (.p (.bin .lss (.t 9) (.c zi6))), mv 11 10, ⟨some 12, .p (.mov (.t 1)), (some (11, false))⟩, ⟨some 13, .h (.load true 1 (.t 3)), (some (11, false))⟩, ⟨some 14, .call 69 [(.t 13)], (some (11, false))⟩, ⟨some 15, .p (.bin .gtr (.t 12) (.t 14)), (some (11, false))⟩, sm 16 (.p (.pick (.t 11) (.c (.bool true)) (.t 15))), mv 17 16, ⟨some 18, .p (.mov (.t 2)), (some (17, false))⟩, ⟨some 19, .p (.len true (.t 18)), (some (17, false))⟩, ⟨some 20, .h (.load true 1 (.t 3)), (some (17, false))⟩, ⟨some 21, .call 69 [(.t 20)], (some (17, false))⟩, ⟨some 22, .p (.mov (.t 1)), (some (17, false))⟩, ⟨some 23, .p (.bin .sub (.t 21) (.t 22)), (some (17, false))⟩, ⟨some 24, .p (.bin .gtr (.t 19) (.t 23)), (some (17, false))⟩, sm 25 (.p (.pick (.t 17) (.c (.bool true)) (.t 24)))])
 (.cond (.t 25) (.seq (.reg [la 26 1 3, st 1 6 26, sm 7 (.p (.mov (.c (.bool false))))])
 .ret) .skip))
 (.seq (.reg [fa 27 0 3, ld 28 27, sm 29 (.call 70 [(.t 28)]), sm 30 (.v (.build [.nils] [(0, 1, (.t 29))])), sm 8 (.h (.alloc [.nils])), st 1 8 30])
 (.seq (.reg [la 31 1 8, mv 32 1, mv 33 2, sm 34 (.l (.s2b (.t 33))), sm 35 (.call 71 [(.t 31), (.t 32), (.t 34)])])
 (.seq (.reg [fa 36 0 8, ld 37 36, sm 38 (.v (.build [.nils] [(0, 1, (.t 37))])), st 1 6 38, sm 7 (.p (.mov (.c (.bool true))))])
 .ret)))))
def rs51 : List AR := [.cell 6 true 1, .tmp 7]
theorem ok51 : okF Tryz.prog 51 39 ac51 rs51 = true := by kernel_rfl
def ac52 : AC := (.seq (.reg [sm 2 (.h (.alloc [zi6, zu3, zu3, zu3, zu3, zu3, zu3, zu3, zu3, zi6, zi6, zi6, zi6, zi6])), sm 3 (.p (.mov (.c zi6)))])
 (.seq (.seq (.reg [mv 4 0, sm 5 (.p (.bin .lss (.t 4) (.c (.int .i64 1)))), mv 6 5, ⟨some 7, .p (.mov (.t 0)), (some (6, false))⟩, ⟨some 8, .p (.bin .gtr (.t 7) (.c (.int .i64 4))), (some (6, false))⟩, sm 9 (.p (.pick (.t 6) (.c (.bool true)) (.t 8)))])
 (.cond (.t 9) (.seq (.reg [sm 10 (.v (.build [zi6, zu3, zu3, zu3, zu3, zu3, zu3, zu3, zu3, zi6, zi6, zi6, zi6, zi6] [])), st 14 2 10, sm 3 (.p (.mov (.c (.int .i64 1))))])
 .ret) .skip))
 (.seq (.reg [mv 11 0, sm 12 (.v (.build [zi6, zu3, zu3, zu3, zu3, zu3, zu3, zu3, zu3, zi6, zi6, zi6, zi6, zi6] [(0, 1, (.t 11))])), st 14 2 12, sm 3 (.p (.mov (.c zi6)))])
 .ret)))
def rs52 : List AR := [.cell 2 true 14, .tmp 3]
theorem ok52 : okF Tryz.prog 52 13 ac52 rs52 = true := by kernel_rfl
def ac53 : AC := (.seq (.reg [sm 2 (.h (.alloc [zu3, zu3, zi6, zi6, .nils, .nils])), sm 3 (.p (.mov (.c zi6)))])
 (.seq (.seq (.reg [mv 4 0, sm 5 (.p (.len false (.t 4))), sm 6 (.p (.bin .gtr (.t 5) (.c (.int .i64 64))))])
 (.cond (.t 6) (.seq (.reg [sm 7 (.v (.build [zu3, zu3, zi6, zi6, .nils, .nils] [])), st 6 2 7, sm 3 (.p (.mov (.c (.int .i64 2))))])
 .ret) .skip))
 (.seq (.reg [mv 8 0, sm 9 (.l (.append 128 128 (.c .nils) (.t 8))), sm 10 (.v (.build [zu3, zu3, zi6, zi6, .nils, .nils] [(4, 1, (.t 9))])), st 6 2 10, sm 3 (.p (.mov (.c zi6)))])
 .ret)))
def rs53 : List AR := [.cell 2 true 6, .tmp 3]
theorem ok53 : okF Tryz.prog 53 11 ac53 rs53 = true := by kernel_rfl
def ac54 : AC := (.seq (.reg [sm 1 (.h (.box (.t 0))), sm 2 (.p (.mov (.c zi6)))])
 (.seq (.seq (.reg [fa 6 1 1, ld 7 6, sm 8 (.p (.bin .lss (.t 7) (.c (.int .i64 1)))), mv 9 8, ⟨some 10, .p (.fieldA 1 (.t 1)), (some (9, false))⟩, ⟨some 11, .h (.load false 1 (.t 10)), (some (9, false))⟩, ⟨some 12, .p (.bin .gtr (.t 11) (.c (.int .i64 64))), (some (9, false))⟩, sm 13 (.p (.pick (.t 9) (.c (.bool true)) (.t 12))), mv 14 13, ⟨some 15, .p (.fieldA 0 (.t 1)), (some (14, false))⟩, ⟨some 16, .h (.load false 1 (.t 15)), (some (14, false))⟩, ⟨some 17, .p (.fieldA 1 (.t 1)), (some (14, false))⟩, ⟨some 18, .h (.load false 1 (.t 17)), (some (14, false))⟩, ⟨some 19, .call 72 [(.t 16), (.t 18)], (some (14, false))⟩, ⟨some 20, .p (.un .not (.t 19)), (some (14, false))⟩, sm 21 (.p (.pick (.t 14) (.c (.bool true)) (.t 20)))])
 (.cond (.t 21) (.seq (.reg [sm 2 (.p (.mov (.c (.int .i64 7))))])
 .ret) .skip))
 (.seq (.seq (.reg [fa 22 2 1, ld 23 22, sm 24 (.p (.len false (.t 23))), sm 25 (.p (.bin .gtr (.t 24) (.c (.int .i64 64)))), mv 26 25, ⟨some 27, .p (.fieldA 3 (.t 1)), (some (26, false))⟩, ⟨some 28, .h (.load false 1 (.t 27)), (some (26, false))⟩, ⟨some 29, .p (.len false (.t 28)), (some (26, false))⟩, ⟨some 30, .p (.bin .gtr (.t 29) (.c (.int .i64 64))), (some (26, false))⟩, sm 31 (.p (.pick (.t 26) (.c (.bool true)) (.t 30)))])
 (.cond (.t 31) (.seq (.reg [sm 2 (.p (.mov (.c (.int .i64 2))))])
 .ret) .skip))
 (.seq (.reg [sm 3 (.p (.mov (.c zi6)))])
 (.seq (.seq (.reg [sm 4 (.p (.mov (.c zi6)))])
 (.block 0 (.loop (.seq (.seq (.reg [mv 32 4, fa 33 2 1, ld 34 33, sm 35 (.p (.len false (.t 34))), sm 36 (.p (.bin .lss (.t 32) (.t 35)))])
 (.cond (.t 36) .skip (.exit 0)))
 (.seq (.block 1 (.seq (.reg [fa 39 2 1, ld 40 39, mv 41 4, sm 42 (.p (.idxA 2 none (.t 40) (.t 41))), la 43 2 42, sm 5 (.h (.alloc [zi6, (.str .empty)])), st 2 5 43])
 (.seq (.seq (.reg [fa 44 1 5, ld 45 44, sm 46 (.p (.len true (.t 45))), sm 47 (.p (.bin .eql (.t 46) (.c zi6))), mv 48 47, ⟨some 49, .p (.fieldA 0 (.t 5)), (some (48, false))⟩, ⟨some 50, .h (.load false 1 (.t 49)), (some (48, false))⟩, ⟨some 51, .p (.mov (.t 3)), (some (48, false))⟩, ⟨some 52, .p (.bin .lss (.t 50) (.t 51)), (some (48, false))⟩, sm 53 (.p (.pick (.t 48) (.c (.bool true)) (.t 52))), mv 54 53, ⟨some 55, .p (.fieldA 0 (.t 5)), (some (54, false))⟩, ⟨some 56, .h (.load false 1 (.t 55)), (some (54, false))⟩, ⟨some 57, .p (.fieldA 1 (.t 1)), (some (54, false))⟩, ⟨some 58, .h (.load false 1 (.t 57)), (some (54, false))⟩, ⟨some 59, .p (.bin .mul (.t 58) (.c (.int .i64 128))), (some (54, false))⟩, ⟨some 60, .p (.bin .gtr (.t 56) (.t 59)), (some (54, false))⟩, sm 61 (.p (.pick (.t 54) (.c (.bool true)) (.t 60))), mv 62 61, ⟨some 63, .p (.fieldA 1 (.t 5)), (some (62, false))⟩, ⟨some 64, .h (.load false 1 (.t 63)), (some (62, false))⟩, ⟨some 65, .p (.len true (.t 64)), (some (62, false))⟩, ⟨some 66, .p (.fieldA 1 (.t 1)), (some (62, false))⟩, ⟨some 67, .h (.load false 1 (.t 66)), (some (62, false))⟩, ⟨some 68, .p (.bin .mul (.t 67) (.c (.int .i64 128))), (some (62, false))⟩, ⟨some 69, .p (.fieldA 0 (.t 5)), (some (62, false))⟩, ⟨some 70, .h (.load false 1 (.t 69)), (some (62, false))⟩, ⟨some 71, .p (.bin .sub (.t 68) (.t 70)), (some (62, false))⟩, ⟨some 72, .p (.bin .gtr (.t 65) (.t 71)), (some (62, false))⟩, sm 73 (.p (.pick (.t 62) (.c (.bool true)) (.t 72)))])
 (.cond (.t 73) (.seq (.reg [sm 2 (.p (.mov (.c (.int .i64 3))))])
 .ret) .skip))
 (.reg [fa 74 0 5, ld 75 74, fa 76 1 5, ld 77 76, sm 78 (.p (.len true (.t 77))), sm 79 (.p (.bin .add (.t 75) (.t 78))), mv 3 79]))))
 (.reg [mv 37 4, sm 38 (.p (.bin .add (.t 37) (.c (.int .i64 1)))), mv 4 38]))))))
 (.seq (.reg [sm 2 (.p (.mov (.c zi6)))])
 .ret))))))
def rs54 : List AR := [.tmp 2]
theorem ok54 : okF Tryz.prog 54 80 ac54 rs54 = true := by kernel_rfl
def ac55 : AC := (.seq (.reg [sm 1 (.h (.box (.t 0))), sm 2 (.p (.mov (.c (.bool false))))])
 (.seq (.seq (.reg [fa 5 0 1, ld 6 5, sm 7 (.p (.bin .lss (.t 6) (.c (.int .i64 1)))), mv 8 7, ⟨some 9, .p (.fieldA 0 (.t 1)), (some (8, false))⟩, ⟨some 10, .h (.load false 1 (.t 9)), (some (8, false))⟩, ⟨some 11, .p (.bin .gtr (.t 10) (.c (.int .i64 4))), (some (8, false))⟩, sm 12 (.p (.pick (.t 8) (.c (.bool true)) (.t 11)))])
 (.cond (.t 12) (.seq (.reg [sm 2 (.p (.mov (.c (.bool false))))])
 .ret) .skip))
 (.seq (.seq (.reg [sm 3 (.p (.mov (.c zi6)))])
 (.block 0 (.loop (.seq (.seq (.reg [mv 13 3, sm 14 (.p (.bin .lss (.t 13) (.c (.int .i64 4))))])
 (.cond (.t 14) .skip (.exit 0)))
 (.seq (.block 1 (.seq (.reg [mv 17 3, fa 18 1 1, sm 19 (.p (.idxA 1 (some 4) (.t 18) (.t 17))), ld 20 19, sm 21 (.p (.binw .geq (.t 20) (.c (.int .u32 32)))), mv 22 21, ⟨some 23, .p (.mov (.t 3)), (some (22, false))⟩, ⟨some 24, .p (.fieldA 5 (.t 1)), (some (22, false))⟩, ⟨some 25, .p (.idxA 1 (some 4) (.t 24) (.t 23)), (some (22, false))⟩, ⟨some 26, .h (.load false 1 (.t 25)), (some (22, false))⟩, ⟨some 27, .p (.binw .geq (.t 26) (.c (.int .u32 32))), (some (22, false))⟩, sm 28 (.p (.pick (.t 22) (.c (.bool true)) (.t 27))), mv 29 28, ⟨some 30, .p (.mov (.t 3)), (some (29, false))⟩, ⟨some 31, .p (.fieldA 0 (.t 1)), (some (29, false))⟩, ⟨some 32, .h (.load false 1 (.t 31)), (some (29, false))⟩, ⟨some 33, .p (.bin .geq (.t 30) (.t 32)), (some (29, false))⟩, ⟨some 34, .p (.mov (.t 33)), (some (29, false))⟩, ⟨some 35, .p (.mov (.t 3)), (some (34, true))⟩, ⟨some 36, .p (.fieldA 1 (.t 1)), (some (34, true))⟩, ⟨some 37, .p (.idxA 1 (some 4) (.t 36) (.t 35)), (some (34, true))⟩, ⟨some 38, .h (.load false 1 (.t 37)), (some (34, true))⟩, ⟨some 39, .p (.binw .neq (.t 38) (.c zu3)), (some (34, true))⟩, ⟨some 40, .p (.mov (.t 39)), (some (34, true))⟩, ⟨some 41, .p (.mov (.t 3)), (some (40, false))⟩, ⟨some 42, .p (.fieldA 5 (.t 1)), (some (40, false))⟩, ⟨some 43, .p (.idxA 1 (some 4) (.t 42) (.t 41)), (some (40, false))⟩, ⟨some 44, .h (.load false 1 (.t 43)), (some (40, false))⟩, ⟨some 45, .p (.binw .neq (.t 44) (.c zu3)), (some (40, false))⟩, ⟨some 46, .p (.pick (.t 40) (.c (.bool true)) (.t 45)), (some (34, true))⟩, ⟨some 47, .p (.pick (.t 34) (.t 46) (.c (.bool false))), (some (29, false))⟩, sm 48 (.p (.pick (.t 29) (.c (.bool true)) (.t 47)))])
 (.cond (.t 48) (.seq (.reg [sm 2 (.p (.mov (.c (.bool false))))])
 .ret) .skip)))
 (.reg [mv 15 3, sm 16 (.p (.bin .add (.t 15) (.c (.int .i64 1)))), mv 3 16]))))))
 (.seq (.seq (.reg [sm 4 (.p (.mov (.c zi6)))])
 (.block 2 (.loop (.seq (.seq (.reg [mv 49 4, sm 50 (.p (.bin .lss (.t 49) (.c (.int .i64 5))))])
 (.cond (.t 50) .skip (.exit 2)))
 (.seq (.block 3 (.seq (.draw 26 [] [mv 53 4, fa 54 9 1, sm 55 (.p (.idxA 1 (some 5) (.t 54) (.t 53))), ld 56 55, sm 57 (.p (.bin .lss (.t 56) (.c zi6))), mv 58 57, ⟨some 59, .p (.mov (.t 4)), (some (58, false))⟩, ⟨some 60, .p (.fieldA 9 (.t 1)), (some (58, false))⟩, ⟨some 61, .p (.idxA 1 (some 5) (.t 60) (.t 59)), (some (58, false))⟩, ⟨some 62, .h (.load false 1 (.t 61)), (some (58, false))⟩, ⟨some 63, .p (.fieldA 0 (.t 1)), (some (58, false))⟩, ⟨some 64, .h (.load false 1 (.t 63)), (some (58, false))⟩, ⟨some 65, .p (.bin .geq (.t 62) (.t 64)), (some (58, false))⟩, sm 66 (.p (.pick (.t 58) (.c (.bool true)) (.t 65))), mv 67 66, ⟨some 68, .p (.mov (.t 4)), (some (67, false))⟩, ⟨some 69, .call 73 [(.t 68)], (some (67, false))⟩, ⟨some 70, .p (.un .not (.t 69)), (some (67, false))⟩, ⟨some 71, .p (.mov (.t 70)), (some (67, false))⟩, ⟨some 72, .p (.mov (.t 4)), (some (71, true))⟩, ⟨some 73, .p (.fieldA 9 (.t 1)), (some (71, true))⟩, ⟨some 74, .p (.idxA 1 (some 5) (.t 73) (.t 72)), (some (71, true))⟩, ⟨some 75, .h (.load false 1 (.t 74)), (some (71, true))⟩, ⟨some 76, .p (.bin .neq (.t 75) (.c zi6)), (some (71, true))⟩, ⟨some 77, .p (.pick (.t 71) (.t 76) (.c (.bool false))), (some (67, false))⟩, sm 78 (.p (.pick (.t 67) (.c (.bool true)) (.t 77)))])
 (.cond (.t 78) (.seq (.reg [sm 2 (.p (.mov (.c (.bool false))))])
 .ret) .skip)))
 (.reg [mv 51 4, sm 52 (.p (.bin .add (.t 51) (.c (.int .i64 1)))), mv 4 52]))))))
 (.seq (.reg [sm 2 (.p (.mov (.c (.bool true))))])
 .ret)))))
def rs55 : List AR := [.tmp 2]
theorem ok55 : okF Tryz.prog 55 79 ac55 rs55 = true := by kernel_rfl
def ac56 : AC := (.seq (.reg [sm 3 (.h (.box (.t 0))), sm 6 (.h (.alloc [.nils, (.bool false)]))])
 (.seq (.seq (.reg [mv 9 1, sm 10 (.p (.bin .lss (.t 9) (.c zi6))), mv 11 10, ⟨some 12, .p (.mov (.t 1)), (some (11, false))⟩, ⟨some 13, .h (.load true 1 (.t 3)), (some (11, false))⟩, ⟨some 14, .call 74 [(.t 13)], (some (11, false))⟩, ⟨some 15, .p (.bin .gtr (.t 12) (.t 14)), (some (11, false))⟩, sm 16 (.p (.pick (.t 11) (.c (.bool true)) (.t 15))), mv 17 16, ⟨some 18, .p (.mov (.t 2)), (some (17, false))⟩, ⟨some 19, .p (.len true (.t 18)), (some (17, false))⟩, ⟨some 20, .h (.load true 1 (.t 3)), (some (17, false))⟩, ⟨some 21, .call 74 [(.t 20)], (some (17, false))⟩, ⟨some 22, .p (.mov (.t 1)), (some (17, false))⟩, ⟨some 23, .p (.bin .sub (.t 21) (.t 22)), (some (17, false))⟩, ⟨some 24, .p (.bin .gtr (.t 19) (.t 23)), (some (17, false))⟩, sm 25 (.p (.pick (.t 17) (.c (.bool true)) (.t 24)))])
 (.cond (.t 25) (.seq (.reg [la 26 1 3, sm 27 (.v (.build [.nils, (.bool false)] [(0, 1, (.t 26))])), st 2 6 27])
 .ret) .skip))
 (.seq (.reg [la 28 1 3, sm 29 (.call 75 [(.t 28)]), sm 7 (.h (.alloc [.nils])), st 1 7 29])
 (.seq (.seq (.reg [sm 8 (.p (.mov (.c zi6)))])
 (.block 0 (.loop (.seq (.seq (.reg [mv 30 8, mv 31 2, sm 32 (.p (.len true (.t 31))), sm 33 (.p (.bin .lss (.t 30) (.t 32)))])
 (.cond (.t 33) .skip (.exit 0)))
 (.seq (.block 1 (.draw 16 [(1, 15)] [fa 36 0 7, ld 37 36, mv 38 1, mv 39 8, sm 40 (.p (.bin .add (.t 38) (.t 39))), sm 41 (.p (.bin .quo (.t 40) (.c (.int .i64 128)))), mv 42 1, mv 43 8, sm 44 (.p (.bin .add (.t 42) (.t 43))), sm 45 (.p (.bin .rem (.t 44) (.c (.int .i64 128)))), mv 46 2, mv 47 8, sm 48 (.v (.sidx (.t 46) (.t 47))), sm 49 (.p (.idxA 128 none (.t 37) (.t 41))), sm 50 (.p (.idxA 1 (some 128) (.t 49) (.t 45))), st 1 50 48]))
 (.reg [mv 34 8, sm 35 (.p (.bin .add (.t 34) (.c (.int .i64 1)))), mv 8 35]))))))
 (.seq (.reg [la 51 1 7, sm 52 (.v (.build [.nils, (.bool false)] [(0, 1, (.t 51)), (1, 1, (.c (.bool true)))])), st 2 6 52])
 .ret)))))
def rs56 : List AR := [.cell 6 true 2]
theorem ok56 : okF Tryz.prog 56 53 ac56 rs56 = true := by kernel_rfl
end Go.Proofs

set_option maxRecDepth 100000
namespace Go.Proofs
open Go Go.Eng
def ac57 : AC := (.seq (.reg [sm 2 (.h (.box (.t 0))), sm 3 (.h (.box (.t 1))), sm 4 (.p (.mov (.c .nils)))])
 (.seq (.reg [sm 5 (.p (.mov (.c .nils)))])
 (.seq (.seq (.reg [sm 6 (.p (.mov (.c zi6)))])
 (.block 0 (.loop (.seq (.seq (.reg [mv 7 6, fa 8 0 2, ld 9 8, sm 10 (.p (.len false (.t 9))), fa 11 0 3, ld 12 11, sm 13 (.p (.len false (.t 12))), sm 14 (.p (.mm true (.t 10) (.t 13))), sm 15 (.p (.bin .lss (.t 7) (.t 14)))])
 (.cond (.t 15) .skip (.exit 0)))
 (.seq (.block 1 (.seq (.draw 25 [] [mv 18 6, fa 19 0 2, ld 20 19, sm 21 (.p (.len false (.t 20))), sm 22 (.p (.bin .geq (.t 18) (.t 21))), mv 23 22, ⟨some 24, .p (.mov (.t 6)), (some (23, false))⟩, ⟨some 25, .p (.fieldA 0 (.t 3)), (some (23, false))⟩, ⟨some 26, .h (.load false 1 (.t 25)), (some (23, false))⟩, ⟨some 27, .p (.len false (.t 26)), (some (23, false))⟩, ⟨some 28, .p (.bin .geq (.t 24) (.t 27)), (some (23, false))⟩, sm 29 (.p (.pick (.t 23) (.c (.bool true)) (.t 28))), mv 30 29, ⟨some 31, .p (.fieldA 0 (.t 2)), (some (30, false))⟩, ⟨some 32, .h (.load false 1 (.t 31)), (some (30, false))⟩, ⟨some 33, .p (.mov (.t 6)), (some (30, false))⟩, ⟨some 34, .p (.idxA 128 none (.t 32) (.t 33)), (some (30, false))⟩, ⟨some 35, .h (.load true 128 (.t 34)), (some (30, false))⟩, ⟨some 36, .p (.fieldA 0 (.t 3)), (some (30, false))⟩, ⟨some 37, .h (.load false 1 (.t 36)), (some (30, false))⟩, ⟨some 38, .p (.mov (.t 6)), (some (30, false))⟩, ⟨some 39, .p (.idxA 128 none (.t 37) (.t 38)), (some (30, false))⟩, ⟨some 40, .h (.load true 128 (.t 39)), (some (30, false))⟩, ⟨some 41, .v (.eqa true [(.i .u8), (.i .u8), (.i .u8), (.i .u8), (.i .u8), (.i .u8), (.i .u8), (.i .u8), (.i .u8), (.i .u8), (.i .u8), (.i .u8), (.i .u8), (.i .u8), (.i .u8), (.i .u8), (.i .u8), (.i .u8), (.i .u8), (.i .u8), (.i .u8), (.i .u8), (.i .u8), (.i .u8), (.i .u8), (.i .u8), (.i .u8), (.i .u8), (.i .u8), (.i .u8), (.i .u8), (.i .u8), (.i .u8), (.i .u8), (.i .u8), (.i .u8), (.i .u8), (.i .u8), (.i .u8), (.i .u8), (.i .u8), (.i .u8), (.i .u8), (.i .u8), (.i .u8), (.i .u8), (.i .u8), (.i .u8), (.i .u8), (.i .u8), (.i .u8), (.i .u8), (.i .u8), (.i .u8), (.i .u8), (.i .u8), (.i .u8), (.i .u8), (.i .u8), (.i .u8), (.i .u8), (.i .u8), (.i .u8), (.i .u8), (.i .u8), (.i .u8), (.i .u8), (.i .u8), (.i .u8), (.i .u8), (.i .u8), (.i .u8), (.i .u8), (.i .u8), (.i .u8), (.i .u8), (.i .u8), (.i .u8), (.i .u8), (.i .u8), (.i .u8), (.i .u8), (.i .u8), (.i .u8), (.i .u8), (.i .u8), (.i .u8), (.i .u8), (.i .u8), (.i .u8), (.i .u8), (.i .u8), (.i .u8), (.i .u8), (.i .u8), (.i .u8), (.i .u8), (.i .u8), (.i .u8), (.i .u8), (.i .u8), (.i .u8), (.i .u8), (.i .u8), (.i .u8), (.i .u8), (.i .u8), (.i .u8), (.i .u8), (.i .u8), (.i .u8), (.i .u8), (.i .u8), (.i .u8), (.i .u8), (.i .u8), (.i .u8), (.i .u8), (.i .u8), (.i .u8), (.i .u8), (.i .u8), (.i .u8), (.i .u8), (.i .u8), (.i .u8), (.i .u8), (.i .u8)] (.t 35) (.t 40)), (some (30, false))⟩, sm 42 (.p (.pick (.t 30) (.c (.bool true)) (.t 41)))])
 (.cond (.t 42) (.reg [mv 43 5, mv 44 6, sm 45 (.d (.bslice 1 1 [zi6] [(0, (.t 44))])), sm 46 (.l (.append 1 8 (.t 43) (.t 45))), mv 5 46]) .skip)))
 (.reg [mv 16 6, sm 17 (.p (.bin .add (.t 16) (.c (.int .i64 1)))), mv 6 17]))))))
 (.seq (.reg [mv 47 5, mv 4 47])
 .ret))))
def rs57 : List AR := [.tmp 4]
theorem ok57 : okF Tryz.prog 57 48 ac57 rs57 = true := by kernel_rfl
def ac58 : AC := (.seq (.reg [sm 2 (.h (.box (.t 0))), sm 3 (.h (.box (.t 1))), sm 4 (.p (.mov (.c (.bool false))))])
 (.seq (.draw 8 [] [la 5 6 2, sm 6 (.call 76 [(.t 5)]), sm 7 (.d (.sl2s (.t 6))), la 8 6 3, sm 9 (.call 76 [(.t 8)]), sm 10 (.d (.sl2s (.t 9))), sm 11 (.p (.bin .eql (.t 7) (.t 10))), mv 4 11])
 .ret))
def rs58 : List AR := [.tmp 4]
theorem ok58 : okF Tryz.prog 58 12 ac58 rs58 = true := by kernel_rfl
def ac59 : AC := (.seq (.reg [sm 3 (.h (.box (.t 1))), sm 4 (.p (.mov (.c zi6))), sm 5 (.p (.mov (.c zi6)))])
 (.seq (.reg [mv 7 0, sm 8 (.p (.mkme 65 [(.t 7)])), mv 9 0, sm 10 (.p (.mkme 77 [(.t 9)])), mv 11 0, sm 12 (.p (.mkme 65 [(.t 11)])), mv 13 0, sm 14 (.p (.mkme 65 [(.t 13)])), mv 15 0, sm 16 (.p (.mkme 65 [(.t 15)])), mv 17 0, sm 18 (.p (.mkme 65 [(.t 17)])), sm 19 (.v (.build [.nilf, .nilf, .nilf, .nilf, .nilf, .nilf] [(0, 1, (.t 8)), (1, 1, (.t 10)), (2, 1, (.t 12)), (3, 1, (.t 14)), (4, 1, (.t 16)), (5, 1, (.t 18))])), sm 6 (.h (.alloc [.nilf, .nilf, .nilf, .nilf, .nilf, .nilf])), st 6 6 19])
 (.seq (.seq (.reg [fa 20 0 3, ld 21 20, sm 22 (.p (.bin .lss (.t 21) (.c zi6))), mv 23 22, ⟨some 24, .p (.fieldA 0 (.t 3)), (some (23, false))⟩, ⟨some 25, .h (.load false 1 (.t 24)), (some (23, false))⟩, ⟨some 26, .p (.bin .geq (.t 25) (.c (.int .i64 6))), (some (23, false))⟩, sm 27 (.p (.pick (.t 23) (.c (.bool true)) (.t 26)))])
 (.cond (.t 27) (.seq (.reg [mv 28 0, la 29 5 3, sm 30 (.call 65 [(.t 28), (.t 29)]), sm 31 (.p (.extract 0 (.t 30))), sm 32 (.p (.extract 1 (.t 30))), mv 4 31, mv 5 32])
 .ret) .skip))
 (.seq (.act 5 [0, 0, 0, 0, 0, 3, 2, 2, 2, 2] [fa 33 0 3, ld 34 33, sm 35 (.p (.idxA 1 (some 6) (.t 6) (.t 34))), ld 36 35, la 37 5 3, sm 38 (.callv (.t 36) [(.t 37)]), sm 39 (.p (.extract 0 (.t 38))), sm 40 (.p (.extract 1 (.t 38))), mv 4 39, mv 5 40])
 .ret))))
def rs59 : List AR := [.tmp 4, .tmp 5]
theorem ok59 : okF Tryz.prog 59 41 ac59 rs59 = true := by kernel_rfl
def ac60 : AC := (.seq (.reg [sm 5 (.h (.box (.t 2))), sm 6 (.p (.mov (.c .nils)))])
 (.seq (.reg [mv 8 0, sm 9 (.call 63 [(.t 8)]), mv 7 9])
 (.seq (.draw 12 [(7, 8), (6, 9), (8, 9), (7, 9), (5, 9), (9, 11), (5, 11), (6, 11), (7, 11), (8, 11)] [mv 10 7, mv 11 1, mv 12 7, mv 13 1, sm 14 (.p (.idxA 1 none (.t 12) (.t 13))), ld 15 14, sm 16 (.call 78 [(.t 15)]), la 17 2 5, sm 18 (.d (.bslice 2 1 [(.bool false), (.str .empty)] [(0, (.t 17))])), sm 19 (.l (.append 2 24 (.t 16) (.t 18))), sm 20 (.p (.idxA 1 none (.t 10) (.t 11))), st 1 20 19])
 (.seq (.reg [mv 21 7, mv 6 21])
 .ret))))
def rs60 : List AR := [.tmp 6]
theorem ok60 : okF Tryz.prog 60 22 ac60 rs60 = true := by kernel_rfl
def ac61 : AC := (.seq (.reg [sm 5 (.h (.box (.t 2))), sm 6 (.p (.mov (.c .nils)))])
 (.seq (.reg [mv 8 0, sm 9 (.call 30 [(.t 8)]), mv 7 9])
 (.seq (.reg [mv 10 7, mv 11 1, la 12 47 5, sm 13 (.p (.idxA 47 none (.t 10) (.t 11))), st 47 13 12])
 (.seq (.reg [mv 14 7, mv 6 14])
 .ret))))
def rs61 : List AR := [.tmp 6]
theorem ok61 : okF Tryz.prog 61 15 ac61 rs61 = true := by kernel_rfl
def ac62 : AC := (.seq (.reg [sm 5 (.h (.box (.t 2))), sm 6 (.p (.mov (.c .nils)))])
 (.seq (.reg [mv 8 0, sm 9 (.call 79 [(.t 8)]), mv 7 9])
 (.seq (.draw 12 [(7, 8), (6, 9), (8, 9), (7, 9), (5, 9), (9, 11), (5, 11), (6, 11), (7, 11), (8, 11)] [mv 10 7, mv 11 1, mv 12 7, mv 13 1, sm 14 (.p (.idxA 1 none (.t 12) (.t 13))), ld 15 14, sm 16 (.call 80 [(.t 15)]), la 17 5 5, sm 18 (.d (.bslice 5 1 [zi6, zi6, zi6, zi6, (.str .empty)] [(0, (.t 17))])), sm 19 (.l (.append 5 48 (.t 16) (.t 18))), sm 20 (.p (.idxA 1 none (.t 10) (.t 11))), st 1 20 19])
 (.seq (.reg [mv 21 7, mv 6 21])
 .ret))))
def rs62 : List AR := [.tmp 6]
theorem ok62 : okF Tryz.prog 62 22 ac62 rs62 = true := by kernel_rfl
def ac63 : AC := (.seq (.reg [sm 2 (.p (.mov (.c .nils)))])
 (.seq (.seq (.reg [mv 3 0, sm 4 (.nq false (.t 3))])
 (.cond (.t 4) (.seq (.reg [sm 2 (.p (.mov (.c .nils)))])
 .ret) .skip))
 (.seq (.reg [sm 5 (.l (.bslice 1 0 [.nils] [])), mv 6 0, sm 7 (.l (.append 1 24 (.t 5) (.t 6))), mv 2 7])
 .ret)))
def rs63 : List AR := [.tmp 2]
theorem ok63 : okF Tryz.prog 63 8 ac63 rs63 = true := by kernel_rfl
def ac64 : AC := (.seq (.reg [sm 6 (.p (.mov (.c .nils)))])
 (.seq (.reg [mv 8 0, sm 9 (.call 81 [(.t 8)]), mv 7 9])
 (.seq (.reg [mv 10 7, mv 11 1, mv 12 2, sm 13 (.p (.idxA 1 none (.t 10) (.t 11))), st 1 13 12])
 (.seq (.reg [mv 14 7, mv 6 14])
 .ret))))
def rs64 : List AR := [.tmp 6]
theorem ok64 : okF Tryz.prog 64 15 ac64 rs64 = true := by kernel_rfl
def ac65 : AC := (.seq (.reg [sm 3 (.h (.box (.t 1))), sm 4 (.p (.mov (.c zi6))), sm 5 (.p (.mov (.c zi6)))])
 (.seq (.block 0 (.seq (.draw 14 [] [fa 10 0 3, ld 11 10, sm 12 (.p (.bin .eql (.t 11) (.c (.int .i64 1)))), mv 13 12, ⟨some 14, .p (.mov (.t 0)), (some (13, false))⟩, ⟨some 15, .p (.nilchk (.t 14)), (some (13, false))⟩, ⟨some 16, .p (.fieldA 0 (.t 15)), (some (13, false))⟩, ⟨some 17, .h (.load true 47 (.t 16)), (some (13, false))⟩, ⟨some 18, .p (.fieldA 1 (.t 3)), (some (13, false))⟩, ⟨some 19, .h (.load false 1 (.t 18)), (some (13, false))⟩, ⟨some 20, .call 82 [(.t 17), (.t 19)], (some (13, false))⟩, ⟨some 21, .p (.un .not (.t 20)), (some (13, false))⟩, sm 22 (.p (.pick (.t 13) (.c (.bool true)) (.t 21))), mv 9 22])
 (.cond (.t 9) (.seq (.reg [sm 4 (.p (.mov (.c zi6))), sm 5 (.p (.mov (.c (.int .i64 1))))])
 .ret) (.seq (.draw 14 [] [fa 24 2 3, ld 25 24, mv 26 0, sm 27 (.p (.nilchk (.t 26))), fa 28 0 27, fa 29 0 28, ld 30 29, fa 31 1 3, ld 32 31, sm 33 (.p (.idxA 30 none (.t 30) (.t 32))), fa 34 29 33, ld 35 34, sm 36 (.p (.bin .neq (.t 25) (.t 35))), mv 23 36])
 (.cond (.t 23) (.seq (.reg [sm 4 (.p (.mov (.c zi6))), sm 5 (.p (.mov (.c (.int .i64 9))))])
 .ret) .skip)))))
 (.seq (.draw 21 [(16, 18), (11, 18), (4, 18), (9, 18), (10, 18), (17, 18), (17, 19), (18, 19), (4, 19), (9, 19), (10, 19), (11, 19), (16, 19)] [mv 38 0, sm 39 (.p (.nilchk (.t 38))), fa 40 0 39, fa 41 2 40, la 42 43 41, mv 43 0, sm 44 (.p (.nilchk (.t 43))), fa 45 0 44, fa 46 1 45, la 47 1 46, la 48 5 3, sm 49 (.call 83 [(.t 42), (.t 47), (.t 48)]), mv 37 49, sm 50 (.p (.extract 0 (.t 37))), sm 51 (.p (.extract 1 (.t 37))), sm 52 (.p (.extract 2 (.t 37))), sm 6 (.h (.alloc [zi6, zu3, zu3, zu3, zu3, zu3, zu3, zu3, zu3, zi6, zi6, zi6, zi6, zi6, zi6, (.bool false), (.bool false), (.bool false), (.bool false), zi6, zi6, zi6, zi6, zi6, zi6, zi6, zi6, (.str .empty), zi6, zu3, zu3, zi6, zi6, .nils, .nils, zu3, zu3, zu3, zu3, zi6, zi6, zi6, zi6])), sm 7 (.h (.alloc [.nils])), st 43 6 50, st 1 7 51, mv 8 52])
 (.seq (.seq (.reg [mv 53 8, sm 54 (.p (.bin .neq (.t 53) (.c zi6)))])
 (.cond (.t 54) (.seq (.reg [mv 55 8, sm 4 (.p (.mov (.c zi6))), mv 5 55])
 .ret) .skip))
 (.seq (.draw 12 [(2, 7), (3, 11), (7, 11), (2, 11)] [mv 56 0, mv 57 0, la 58 43 6, la 59 1 7, sm 60 (.p (.nilchk (.t 56))), fa 61 0 60, fa 62 2 61, st 43 62 58, sm 63 (.p (.nilchk (.t 57))), fa 64 0 63, fa 65 1 64, st 1 65 59])
 (.seq (.reg [sm 4 (.p (.mov (.c zi6))), sm 5 (.p (.mov (.c zi6)))])
 .ret))))))
def rs65 : List AR := [.tmp 4, .tmp 5]
theorem ok65 : okF Tryz.prog 65 66 ac65 rs65 = true := by kernel_rfl
def ac66 : AC := (.seq (.reg [sm 2 (.p (.mov (.c .nils)))])
 (.seq (.seq (.reg [mv 3 0, sm 4 (.nq false (.t 3))])
 (.cond (.t 4) (.seq (.reg [sm 2 (.p (.mov (.c .nils)))])
 .ret) .skip))
 (.seq (.reg [sm 5 (.l (.bslice 1 0 [.nils] [])), mv 6 0, sm 7 (.l (.append 1 24 (.t 5) (.t 6))), mv 2 7])
 .ret)))
def rs66 : List AR := [.tmp 2]
theorem ok66 : okF Tryz.prog 66 8 ac66 rs66 = true := by kernel_rfl
def ac67 : AC := (.seq (.reg [sm 2 (.p (.mov (.c .nils)))])
 (.seq (.reg [mv 3 0, mv 4 0, sm 5 (.p (.len false (.t 4))), mv 6 0, sm 7 (.p (.len false (.t 6))), sm 8 (.v (.sub 1 (.t 3) none (some (.t 5)) (some (.t 7)))), mv 2 8])
 .ret))
def rs67 : List AR := [.tmp 2]
theorem ok67 : okF Tryz.prog 67 9 ac67 rs67 = true := by kernel_rfl
def ac68 : AC := (.seq (.reg [sm 4 (.p (.mov (.c (.bool false))))])
 (.seq (.reg [mv 5 0, sm 6 (.p (.bin .geq (.t 5) (.c zi6))), mv 7 6, ⟨some 8, .p (.mov (.t 0)), (some (7, true))⟩, ⟨some 9, .p (.bin .rem (.t 8) (.c (.int .i64 4))), (some (7, true))⟩, ⟨some 10, .p (.bin .eql (.t 9) (.c zi6)), (some (7, true))⟩, sm 11 (.p (.pick (.t 7) (.t 10) (.c (.bool false)))), mv 12 11, ⟨some 13, .p (.mov (.t 0)), (some (12, true))⟩, ⟨some 14, .p (.mov (.t 1)), (some (12, true))⟩, ⟨some 15, .p (.bin .mul (.t 14) (.c (.int .i64 128))), (some (12, true))⟩, ⟨some 16, .p (.bin .sub (.t 15) (.c (.int .i64 4))), (some (12, true))⟩, ⟨some 17, .p (.bin .leq (.t 13) (.t 16)), (some (12, true))⟩, sm 18 (.p (.pick (.t 12) (.t 17) (.c (.bool false)))), mv 4 18])
 .ret))
def rs68 : List AR := [.tmp 4]
theorem ok68 : okF Tryz.prog 68 19 ac68 rs68 = true := by kernel_rfl
def ac69 : AC := (.seq (.reg [sm 1 (.h (.box (.t 0))), sm 2 (.p (.mov (.c zi6)))])
 (.seq (.reg [fa 3 0 1, ld 4 3, sm 5 (.p (.len false (.t 4))), sm 6 (.p (.bin .mul (.t 5) (.c (.int .i64 128)))), mv 2 6])
 .ret))
def rs69 : List AR := [.tmp 2]
theorem ok69 : okF Tryz.prog 69 7 ac69 rs69 = true := by kernel_rfl
def ac70 : AC := (.seq (.reg [sm 2 (.p (.mov (.c .nils)))])
 (.seq (.seq (.reg [mv 3 0, sm 4 (.nq false (.t 3))])
 (.cond (.t 4) (.seq (.reg [sm 2 (.p (.mov (.c .nils)))])
 .ret) .skip))
 (.seq (.reg [sm 5 (.l (.bslice 128 0 [zu8, zu8, zu8, zu8, zu8, zu8, zu8, zu8, zu8, zu8, zu8, zu8, zu8, zu8, zu8, zu8, zu8, zu8, zu8, zu8, zu8, zu8, zu8, zu8, zu8, zu8, zu8, zu8, zu8, zu8, zu8, zu8, zu8, zu8, zu8, zu8, zu8, zu8, zu8, zu8, zu8, zu8, zu8, zu8, zu8, zu8, zu8, zu8, zu8, zu8, zu8, zu8, zu8, zu8, zu8, zu8, zu8, zu8, zu8, zu8, zu8, zu8, zu8, zu8, zu8, zu8, zu8, zu8, zu8, zu8, zu8, zu8, zu8, zu8, zu8, zu8, zu8, zu8, zu8, zu8, zu8, zu8, zu8, zu8, zu8, zu8, zu8, zu8, zu8, zu8, zu8, zu8, zu8, zu8, zu8, zu8, zu8, zu8, zu8, zu8, zu8, zu8, zu8, zu8, zu8, zu8, zu8, zu8, zu8, zu8, zu8, zu8, zu8, zu8, zu8, zu8, zu8, zu8, zu8, zu8, zu8, zu8, zu8, zu8, zu8, zu8, zu8, zu8] [])), mv 6 0, sm 7 (.l (.append 128 128 (.t 5) (.t 6))), mv 2 7])
 .ret)))
def rs70 : List AR := [.tmp 2]
theorem ok70 : okF Tryz.prog 70 8 ac70 rs70 = true := by kernel_rfl
def ac71 : AC := (.seq (.reg [sm 3 (.h (.box (.t 0)))])
 (.block 0 (.loop (.seq (.seq (.reg [mv 7 2, sm 8 (.p (.len false (.t 7))), sm 9 (.p (.bin .gtr (.t 8) (.c zi6)))])
 (.cond (.t 9) .skip (.exit 0)))
 (.block 1 (.seq (.reg [fa 10 0 3, ld 11 10, mv 12 1, sm 13 (.p (.bin .quo (.t 12) (.c (.int .i64 128)))), sm 14 (.p (.idxA 128 none (.t 11) (.t 13))), mv 15 1, sm 16 (.p (.bin .rem (.t 15) (.c (.int .i64 128)))), sm 17 (.d (.asub 1 128 (.t 14) (some (.t 16)) none)), mv 18 2, sm 19 (.m (.copy 1 (.t 17) (.t 18))), mv 6 19])
 (.draw 8 [] [mv 20 1, mv 21 6, sm 22 (.p (.bin .add (.t 20) (.t 21))), mv 23 2, mv 24 6, sm 25 (.v (.sub 1 (.t 23) (some (.t 24)) none none)), mv 1 22, mv 2 25])))))))
def rs71 : List AR := []
theorem ok71 : okF Tryz.prog 71 26 ac71 rs71 = true := by kernel_rfl
def ac72 : AC := (.seq (.reg [sm 4 (.p (.mov (.c (.bool false))))])
 (.seq (.reg [mv 5 0, sm 6 (.p (.bin .geq (.t 5) (.c zi6))), mv 7 6, ⟨some 8, .p (.mov (.t 0)), (some (7, true))⟩, ⟨some 9, .p (.bin .rem (.t 8) (.c (.int .i64 4))), (some (7, true))⟩, ⟨some 10, .p (.bin .eql (.t 9) (.c zi6)), (some (7, true))⟩, sm 11 (.p (.pick (.t 7) (.t 10) (.c (.bool false)))), mv 12 11, ⟨some 13, .p (.mov (.t 0)), (some (12, true))⟩, ⟨some 14, .p (.mov (.t 1)), (some (12, true))⟩, ⟨some 15, .p (.bin .mul (.t 14) (.c (.int .i64 128))), (some (12, true))⟩, ⟨some 16, .p (.bin .sub (.t 15) (.c (.int .i64 4))), (some (12, true))⟩, ⟨some 17, .p (.bin .leq (.t 13) (.t 16)), (some (12, true))⟩, sm 18 (.p (.pick (.t 12) (.t 17) (.c (.bool false)))), mv 4 18])
 .ret))
def rs72 : List AR := [.tmp 4]
theorem ok72 : okF Tryz.prog 72 19 ac72 rs72 = true := by kernel_rfl
def ac73 : AC := (.seq (.reg [sm 2 (.p (.mov (.c (.bool false))))])
 (.seq (.reg [mv 3 0, sm 4 (.p (.bin .geq (.t 3) (.c (.int .i64 1)))), mv 5 4, ⟨some 6, .p (.mov (.t 0)), (some (5, true))⟩, ⟨some 7, .p (.bin .leq (.t 6) (.c (.int .i64 3))), (some (5, true))⟩, sm 8 (.p (.pick (.t 5) (.t 7) (.c (.bool false)))), mv 2 8])
 .ret))
def rs73 : List AR := [.tmp 2]
theorem ok73 : okF Tryz.prog 73 9 ac73 rs73 = true := by kernel_rfl
def ac74 : AC := (.seq (.reg [sm 1 (.h (.box (.t 0))), sm 2 (.p (.mov (.c zi6)))])
 (.seq (.reg [fa 3 0 1, ld 4 3, sm 5 (.p (.len false (.t 4))), sm 6 (.p (.bin .mul (.t 5) (.c (.int .i64 128)))), mv 2 6])
 .ret))
def rs74 : List AR := [.tmp 2]
theorem ok74 : okF Tryz.prog 74 7 ac74 rs74 = true := by kernel_rfl
def ac75 : AC := (.seq (.reg [sm 1 (.h (.box (.t 0))), sm 2 (.h (.alloc [.nils]))])
 (.seq (.reg [sm 3 (.l (.bslice 128 0 [zu8, zu8, zu8, zu8, zu8, zu8, zu8, zu8, zu8, zu8, zu8, zu8, zu8, zu8, zu8, zu8, zu8, zu8, zu8, zu8, zu8, zu8, zu8, zu8, zu8, zu8, zu8, zu8, zu8, zu8, zu8, zu8, zu8, zu8, zu8, zu8, zu8, zu8, zu8, zu8, zu8, zu8, zu8, zu8, zu8, zu8, zu8, zu8, zu8, zu8, zu8, zu8, zu8, zu8, zu8, zu8, zu8, zu8, zu8, zu8, zu8, zu8, zu8, zu8, zu8, zu8, zu8, zu8, zu8, zu8, zu8, zu8, zu8, zu8, zu8, zu8, zu8, zu8, zu8, zu8, zu8, zu8, zu8, zu8, zu8, zu8, zu8, zu8, zu8, zu8, zu8, zu8, zu8, zu8, zu8, zu8, zu8, zu8, zu8, zu8, zu8, zu8, zu8, zu8, zu8, zu8, zu8, zu8, zu8, zu8, zu8, zu8, zu8, zu8, zu8, zu8, zu8, zu8, zu8, zu8, zu8, zu8, zu8, zu8, zu8, zu8, zu8, zu8] [])), fa 4 0 1, ld 5 4, sm 6 (.l (.append 128 128 (.t 3) (.t 5))), sm 7 (.v (.build [.nils] [(0, 1, (.t 6))])), st 1 2 7])
 .ret))
def rs75 : List AR := [.cell 2 true 1]
theorem ok75 : okF Tryz.prog 75 8 ac75 rs75 = true := by kernel_rfl
def ac76 : AC := (.seq (.reg [sm 1 (.h (.box (.t 0))), sm 2 (.p (.mov (.c .nils)))])
 (.seq (.reg [fa 10 0 1, fa 11 0 10, ld 12 11, sm 13 (.p (.conv .i64 (.t 12))), fa 14 0 1, fa 15 1 14, ld 16 15, sm 17 (.p (.conv .i64 (.t 16))), fa 18 2 1, ld 19 18, fa 20 3 1, ld 21 20, fa 22 4 1, ld 23 22, sm 24 (.p (.len false (.t 23))), fa 25 5 1, ld 26 25, sm 27 (.p (.len false (.t 26))), sm 28 (.d (.bslice 1 6 [zi6] [(0, (.t 13)), (1, (.t 17)), (2, (.t 19)), (3, (.t 21)), (4, (.t 24)), (5, (.t 27))])), mv 3 28])
 (.seq (.seq (.reg [sm 4 (.p (.mov (.c zi6)))])
 (.block 0 (.loop (.seq (.seq (.reg [mv 29 4, fa 30 5 1, ld 31 30, sm 32 (.p (.len false (.t 31))), sm 33 (.p (.bin .lss (.t 29) (.t 32)))])
 (.cond (.t 33) .skip (.exit 0)))
 (.seq (.block 1 (.seq (.reg [fa 36 5 1, ld 37 36, mv 38 4, sm 39 (.p (.idxA 5 none (.t 37) (.t 38))), la 40 5 39, sm 5 (.h (.alloc [zu3, zu3, zi6, (.bool false), .nils])), st 5 5 40])
 (.seq (.draw 20 [(10, 17), (13, 17), (15, 17), (12, 17), (7, 17), (3, 17), (17, 18), (13, 18), (12, 18), (10, 18), (15, 18), (7, 18), (3, 18)] [mv 41 3, fa 42 0 5, fa 43 0 42, ld 44 43, sm 45 (.p (.conv .i64 (.t 44))), fa 46 0 5, fa 47 1 46, ld 48 47, sm 49 (.p (.conv .i64 (.t 48))), fa 50 2 5, ld 51 50, fa 52 3 5, ld 53 52, sm 54 (.call 84 [(.t 53)]), fa 55 4 5, ld 56 55, sm 57 (.p (.len false (.t 56))), sm 58 (.d (.bslice 1 5 [zi6] [(0, (.t 45)), (1, (.t 49)), (2, (.t 51)), (3, (.t 54)), (4, (.t 57))])), sm 59 (.l (.append 1 8 (.t 41) (.t 58))), mv 3 59])
 (.seq (.reg [sm 6 (.p (.mov (.c zi6)))])
 (.block 2 (.loop (.seq (.seq (.reg [mv 60 6, fa 61 4 5, ld 62 61, sm 63 (.p (.len false (.t 62))), sm 64 (.p (.bin .lss (.t 60) (.t 63)))])
 (.cond (.t 64) .skip (.exit 2)))
 (.seq (.block 3 (.draw 29 [(6, 26), (12, 26), (18, 26), (25, 26), (24, 26), (20, 26), (14, 26), (8, 26), (2, 26), (26, 27), (25, 27), (24, 27), (20, 27), (6, 27), (12, 27), (18, 27), (14, 27), (8, 27), (2, 27)] [mv 67 3, fa 68 4 5, ld 69 68, mv 70 6, sm 71 (.p (.idxA 4 none (.t 69) (.t 70))), fa 72 0 71, ld 73 72, fa 74 4 5, ld 75 74, mv 76 6, sm 77 (.p (.idxA 4 none (.t 75) (.t 76))), fa 78 1 77, ld 79 78, fa 80 4 5, ld 81 80, mv 82 6, sm 83 (.p (.idxA 4 none (.t 81) (.t 82))), fa 84 2 83, ld 85 84, fa 86 4 5, ld 87 86, mv 88 6, sm 89 (.p (.idxA 4 none (.t 87) (.t 88))), fa 90 3 89, ld 91 90, sm 92 (.call 84 [(.t 91)]), sm 93 (.d (.bslice 1 4 [zi6] [(0, (.t 73)), (1, (.t 79)), (2, (.t 85)), (3, (.t 92))])), sm 94 (.l (.append 1 8 (.t 67) (.t 93))), mv 3 94]))
 (.reg [mv 65 6, sm 66 (.p (.bin .add (.t 65) (.c (.int .i64 1)))), mv 6 66])))))))))
 (.reg [mv 34 4, sm 35 (.p (.bin .add (.t 34) (.c (.int .i64 1)))), mv 4 35]))))))
 (.seq (.reg [mv 95 3, sm 96 (.call 85 [(.t 95)]), mv 7 96])
 (.seq (.seq (.reg [sm 8 (.p (.mov (.c zi6)))])
 (.block 4 (.loop (.seq (.seq (.reg [mv 97 8, fa 98 4 1, ld 99 98, sm 100 (.p (.len false (.t 99))), sm 101 (.p (.bin .lss (.t 97) (.t 100)))])
 (.cond (.t 101) .skip (.exit 4)))
 (.seq (.block 5 (.seq (.reg [sm 9 (.p (.mov (.c zi6)))])
 (.block 6 (.loop (.seq (.seq (.reg [mv 104 9, sm 105 (.p (.bin .lss (.t 104) (.c (.int .i64 128))))])
 (.cond (.t 105) .skip (.exit 6)))
 (.seq (.block 7 (.reg [mv 108 7, fa 109 4 1, ld 110 109, mv 111 8, mv 112 9, sm 113 (.p (.idxA 128 none (.t 110) (.t 111))), sm 114 (.p (.idxA 1 (some 128) (.t 113) (.t 112))), ld 115 114, sm 116 (.d (.bslice 1 1 [zu8] [(0, (.t 115))])), sm 117 (.l (.append 1 1 (.t 108) (.t 116))), mv 7 117]))
 (.reg [mv 106 9, sm 107 (.p (.bin .add (.t 106) (.c (.int .i64 1)))), mv 9 107])))))))
 (.reg [mv 102 8, sm 103 (.p (.bin .add (.t 102) (.c (.int .i64 1)))), mv 8 103]))))))
 (.seq (.reg [mv 118 7, mv 2 118])
 .ret))))))
def rs76 : List AR := [.tmp 2]
theorem ok76 : okF Tryz.prog 76 119 ac76 rs76 = true := by kernel_rfl
def rfA770 : AC := (.seq (.reg [mv 6 42])
 (.reg [mv 7 43]))
def rfB770 : AC := (.block 2 (.seq (.reg [mv 44 7, sm 45 (.p (.bin .neq (.t 44) (.c zi6)))])
 (.cond (.t 45) (.seq (.reg [mv 46 6, mv 47 7, st 1 4 46, st 1 5 47])
 .ret) .skip)))
def ac77 : AC := (.seq (.reg [sm 3 (.h (.box (.t 1))), sm 4 (.h (.alloc [zi6])), sm 5 (.h (.alloc [zi6]))])
 (.seq (.block 0 (.seq (.draw 14 [] [mv 9 0, sm 10 (.p (.nilchk (.t 9))), fa 11 0 10, la 12 47 11, fa 13 1 3, ld 14 13, sm 15 (.call 82 [(.t 12), (.t 14)]), sm 16 (.p (.un .not (.t 15))), mv 17 16, ⟨some 18, .p (.fieldA 3 (.t 3)), (some (17, false))⟩, ⟨some 19, .h (.load false 1 (.t 18)), (some (17, false))⟩, ⟨some 20, .p (.bin .lss (.t 19) (.c (.int .i64 1))), (some (17, false))⟩, sm 21 (.p (.pick (.t 17) (.c (.bool true)) (.t 20))), mv 8 21])
 (.cond (.t 8) (.seq (.reg [⟨none, .h (.store 1 (.t 4) (.c zi6)), none⟩, ⟨none, .h (.store 1 (.t 5) (.c (.int .i64 1))), none⟩])
 .ret) (.seq (.draw 14 [] [fa 23 2 3, ld 24 23, mv 25 0, sm 26 (.p (.nilchk (.t 25))), fa 27 0 26, fa 28 0 27, ld 29 28, fa 30 1 3, ld 31 30, sm 32 (.p (.idxA 30 none (.t 29) (.t 31))), fa 33 29 32, ld 34 33, sm 35 (.p (.bin .neq (.t 24) (.t 34))), mv 22 35])
 (.cond (.t 22) (.seq (.reg [⟨none, .h (.store 1 (.t 4) (.c zi6)), none⟩, ⟨none, .h (.store 1 (.t 5) (.c (.int .i64 9))), none⟩])
 .ret) .skip)))))
 (.seq (.seq (.reg [mv 36 0, fa 37 1 3, ld 38 37, fa 39 3 3, ld 40 39, sm 41 (.call 86 [(.t 36), (.t 38), (.t 40)])])
 (.block 1 (.rangeF 770 (.t 41) [4, 5] [42, 43] rfA770 rfB770)))
 (.seq (.reg [fa 48 3 3, ld 49 48, st 1 4 49, ⟨none, .h (.store 1 (.t 5) (.c zi6)), none⟩])
 .ret))))
def rs77 : List AR := [.cell 4 false 1, .cell 5 false 1]
theorem ok77 : okF Tryz.prog 77 50 ac77 rs77 = true := by kernel_rfl
def ac78 : AC := (.seq (.reg [sm 2 (.p (.mov (.c .nils)))])
 (.seq (.reg [mv 3 0, mv 4 0, sm 5 (.p (.len false (.t 4))), mv 6 0, sm 7 (.p (.len false (.t 6))), sm 8 (.v (.sub 2 (.t 3) none (some (.t 5)) (some (.t 7)))), mv 2 8])
 .ret))
def rs78 : List AR := [.tmp 2]
theorem ok78 : okF Tryz.prog 78 9 ac78 rs78 = true := by kernel_rfl
def ac79 : AC := (.seq (.reg [sm 2 (.p (.mov (.c .nils)))])
 (.seq (.seq (.reg [mv 3 0, sm 4 (.nq false (.t 3))])
 (.cond (.t 4) (.seq (.reg [sm 2 (.p (.mov (.c .nils)))])
 .ret) .skip))
 (.seq (.reg [sm 5 (.l (.bslice 1 0 [.nils] [])), mv 6 0, sm 7 (.l (.append 1 24 (.t 5) (.t 6))), mv 2 7])
 .ret)))
def rs79 : List AR := [.tmp 2]
theorem ok79 : okF Tryz.prog 79 8 ac79 rs79 = true := by kernel_rfl
def ac80 : AC := (.seq (.reg [sm 2 (.p (.mov (.c .nils)))])
 (.seq (.reg [mv 3 0, mv 4 0, sm 5 (.p (.len false (.t 4))), mv 6 0, sm 7 (.p (.len false (.t 6))), sm 8 (.v (.sub 5 (.t 3) none (some (.t 5)) (some (.t 7)))), mv 2 8])
 .ret))
def rs80 : List AR := [.tmp 2]
theorem ok80 : okF Tryz.prog 80 9 ac80 rs80 = true := by kernel_rfl
def ac81 : AC := (.seq (.reg [sm 2 (.p (.mov (.c .nils)))])
 (.seq (.seq (.reg [mv 3 0, sm 4 (.nq false (.t 3))])
 (.cond (.t 4) (.seq (.reg [sm 2 (.p (.mov (.c .nils)))])
 .ret) .skip))
 (.seq (.reg [sm 5 (.l (.bslice 1 0 [(.bool false)] [])), mv 6 0, sm 7 (.l (.append 1 1 (.t 5) (.t 6))), mv 2 7])
 .ret)))
def rs81 : List AR := [.tmp 2]
theorem ok81 : okF Tryz.prog 81 8 ac81 rs81 = true := by kernel_rfl
def ac82 : AC := (.seq (.reg [sm 2 (.h (.box (.t 0))), sm 4 (.p (.mov (.c (.bool false))))])
 (.seq (.reg [mv 5 1, sm 6 (.p (.bin .geq (.t 5) (.c zi6))), mv 7 6, ⟨some 8, .p (.mov (.t 1)), (some (7, true))⟩, ⟨some 9, .p (.fieldA 0 (.t 2)), (some (7, true))⟩, ⟨some 10, .h (.load false 1 (.t 9)), (some (7, true))⟩, ⟨some 11, .p (.len false (.t 10)), (some (7, true))⟩, ⟨some 12, .p (.bin .lss (.t 8) (.t 11)), (some (7, true))⟩, sm 13 (.p (.pick (.t 7) (.t 12) (.c (.bool false)))), mv 4 13])
 .ret))
def rs82 : List AR := [.tmp 4]
theorem ok82 : okF Tryz.prog 82 14 ac82 rs82 = true := by kernel_rfl
def ac83 : AC := (.seq (.reg [sm 3 (.h (.box (.t 0))), sm 4 (.h (.box (.t 1))), sm 5 (.h (.box (.t 2))), sm 6 (.h (.alloc [zi6, zu3, zu3, zu3, zu3, zu3, zu3, zu3, zu3, zi6, zi6, zi6, zi6, zi6, zi6, (.bool false), (.bool false), (.bool false), (.bool false), zi6, zi6, zi6, zi6, zi6, zi6, zi6, zi6, (.str .empty), zi6, zu3, zu3, zi6, zi6, .nils, .nils, zu3, zu3, zu3, zu3, zi6, zi6, zi6, zi6])), sm 7 (.h (.alloc [.nils])), sm 8 (.p (.mov (.c zi6)))])
 (.seq (.seq (.reg [fa 18 0 5, ld 19 18, sm 20 (.p (.bin .lss (.t 19) (.c (.int .i64 2)))), mv 21 20, ⟨some 22, .p (.fieldA 0 (.t 5)), (some (21, false))⟩, ⟨some 23, .h (.load false 1 (.t 22)), (some (21, false))⟩, ⟨some 24, .p (.bin .gtr (.t 23) (.c (.int .i64 5))), (some (21, false))⟩, sm 25 (.p (.pick (.t 21) (.c (.bool true)) (.t 24))), mv 26 25, ⟨some 27, .p (.fieldA 1 (.t 5)), (some (26, false))⟩, ⟨some 28, .h (.load false 1 (.t 27)), (some (26, false))⟩, ⟨some 29, .p (.bin .lss (.t 28) (.c zi6)), (some (26, false))⟩, sm 30 (.p (.pick (.t 26) (.c (.bool true)) (.t 29))), mv 31 30, ⟨some 32, .p (.fieldA 1 (.t 5)), (some (31, false))⟩, ⟨some 33, .h (.load false 1 (.t 32)), (some (31, false))⟩, ⟨some 34, .p (.fieldA 0 (.t 3)), (some (31, false))⟩, ⟨some 35, .p (.fieldA 0 (.t 34)), (some (31, false))⟩, ⟨some 36, .h (.load false 1 (.t 35)), (some (31, false))⟩, ⟨some 37, .p (.bin .geq (.t 33) (.t 36)), (some (31, false))⟩, sm 38 (.p (.pick (.t 31) (.c (.bool true)) (.t 37)))])
 (.cond (.t 38) (.seq (.draw 5 [(0, 2), (1, 3), (2, 3), (0, 3)] [la 39 43 3, la 40 1 4, st 43 6 39, st 1 7 40, sm 8 (.p (.mov (.c (.int .i64 1))))])
 .ret) .skip))
 (.seq (.seq (.reg [la 41 5 5, sm 42 (.call 87 [(.t 41)]), sm 43 (.p (.un .not (.t 42)))])
 (.cond (.t 43) (.seq (.draw 5 [(0, 2), (1, 3), (2, 3), (0, 3)] [la 44 43 3, la 45 1 4, st 43 6 44, st 1 7 45, sm 8 (.p (.mov (.c (.int .i64 3))))])
 .ret) .skip))
 (.seq (.reg [la 46 43 3, sm 9 (.h (.alloc [zi6, zu3, zu3, zu3, zu3, zu3, zu3, zu3, zu3, zi6, zi6, zi6, zi6, zi6, zi6, (.bool false), (.bool false), (.bool false), (.bool false), zi6, zi6, zi6, zi6, zi6, zi6, zi6, zi6, (.str .empty), zi6, zu3, zu3, zi6, zi6, .nils, .nils, zu3, zu3, zu3, zu3, zi6, zi6, zi6, zi6])), st 43 9 46])
 (.seq (.seq (.reg [fa 47 0 5, ld 48 47])
 (.block 0 (.seq (.reg [sm 50 (.p (.bin .eql (.t 48) (.c (.int .i64 2)))), mv 49 50])
 (.cond (.t 49) (.seq (.reg [fa 52 14 3, la 53 13 52, fa 54 1 5, ld 55 54, fa 56 3 5, ld 57 56, sm 58 (.call 88 [(.t 53), (.t 55), (.t 57)]), mv 51 58, sm 59 (.p (.extract 0 (.t 51))), sm 60 (.p (.extract 1 (.t 51))), sm 10 (.h (.alloc [zi6, (.bool false), (.bool false), (.bool false), (.bool false), zi6, zi6, zi6, zi6, zi6, zi6, zi6, zi6])), st 13 10 59, mv 11 60])
 (.seq (.seq (.reg [mv 61 11, sm 62 (.p (.bin .neq (.t 61) (.c zi6)))])
 (.cond (.t 62) (.seq (.draw 6 [(0, 3), (1, 4), (3, 4), (0, 4)] [la 63 43 3, la 64 1 4, mv 65 11, st 43 6 63, st 1 7 64, mv 8 65])
 .ret) .skip))
 (.seq (.reg [la 66 13 10, fa 67 14 9, st 13 67 66])
 (.seq (.draw 5 [(0, 2), (1, 3), (2, 3), (0, 3)] [la 68 43 9, la 69 1 4, st 43 6 68, st 1 7 69, sm 8 (.p (.mov (.c zi6)))])
 .ret)))) (.seq (.reg [sm 71 (.p (.bin .eql (.t 48) (.c (.int .i64 3)))), mv 70 71])
 (.cond (.t 70) (.seq (.draw 12 [(9, 10), (5, 10), (1, 10), (3, 10)] [fa 73 27 3, la 74 2 73, fa 75 4 5, ld 76 75, sm 77 (.v (.sidx (.t 76) (.c zi6))), sm 78 (.call 89 [(.t 74), (.t 77)]), mv 72 78, sm 79 (.p (.extract 0 (.t 72))), sm 80 (.p (.extract 1 (.t 72))), sm 12 (.h (.alloc [(.str .empty), zi6])), st 2 12 79, mv 13 80])
 (.seq (.reg [la 81 2 12, fa 82 27 9, st 2 82 81])
 (.seq (.draw 7 [(2, 4), (0, 4), (3, 5), (4, 5), (0, 5), (2, 5)] [la 83 43 9, mv 84 13, sm 85 (.call 90 [(.t 83), (.c (.int .i64 1)), (.t 84)]), la 86 1 4, st 43 6 85, st 1 7 86, sm 8 (.p (.mov (.c zi6)))])
 .ret))) (.seq (.reg [sm 88 (.p (.bin .eql (.t 48) (.c (.int .i64 4)))), mv 87 88])
 (.cond (.t 87) (.seq (.reg [fa 90 35 3, la 91 8 90, la 92 1 4, fa 93 4 5, ld 94 93, sm 95 (.call 91 [(.t 91), (.t 92), (.t 94)]), mv 89 95, sm 96 (.p (.extract 0 (.t 89))), sm 97 (.p (.extract 1 (.t 89))), sm 14 (.h (.alloc [zu3, zu3, zu3, zu3, zi6, zi6, zi6, zi6])), sm 15 (.h (.alloc [.nils, zu3, .nils, (.bool false), (.bool false)])), st 8 14 96, st 5 15 97])
 (.seq (.reg [la 98 8 14, fa 99 35 9, st 8 99 98])
 (.seq (.draw 9 [(3, 6), (0, 6), (2, 6), (5, 7), (6, 7), (0, 7), (2, 7), (3, 7)] [la 100 43 9, fa 101 3 15, ld 102 101, sm 103 (.call 90 [(.t 100), (.c (.int .i64 3)), (.t 102)]), fa 104 0 15, la 105 1 104, st 43 6 103, st 1 7 105, sm 8 (.p (.mov (.c zi6)))])
 .ret))) .skip))))))))
 (.seq (.reg [fa 107 29 3, la 108 6 107, la 109 1 4, fa 110 3 5, ld 111 110, sm 112 (.call 92 [(.t 108), (.t 109), (.t 111)]), mv 106 112, sm 113 (.p (.extract 0 (.t 106))), sm 114 (.p (.extract 1 (.t 106))), sm 16 (.h (.alloc [zu3, zu3, zi6, zi6, .nils, .nils])), sm 17 (.h (.alloc [.nils, zu3, .nils, (.bool false), (.bool false)])), st 6 16 113, st 5 17 114])
 (.seq (.seq (.reg [fa 115 4 17, ld 116 115, sm 117 (.p (.un .not (.t 116)))])
 (.cond (.t 117) (.seq (.draw 5 [(0, 2), (1, 3), (2, 3), (0, 3)] [la 118 43 3, la 119 1 4, st 43 6 118, st 1 7 119, sm 8 (.p (.mov (.c (.int .i64 5))))])
 .ret) .skip))
 (.seq (.reg [la 120 6 16, fa 121 29 9, st 6 121 120])
 (.seq (.draw 9 [(3, 6), (0, 6), (2, 6), (5, 7), (6, 7), (0, 7), (2, 7), (3, 7)] [la 122 43 9, fa 123 3 17, ld 124 123, sm 125 (.call 90 [(.t 122), (.c (.int .i64 2)), (.t 124)]), fa 126 0 17, la 127 1 126, st 43 6 125, st 1 7 127, sm 8 (.p (.mov (.c zi6)))])
 .ret)))))))))
def rs83 : List AR := [.cell 6 true 43, .cell 7 true 1, .tmp 8]
theorem ok83 : okF Tryz.prog 83 128 ac83 rs83 = true := by kernel_rfl
def ac84 : AC := (.seq (.reg [sm 2 (.p (.mov (.c zi6)))])
 (.seq (.seq (.reg [mv 3 0])
 (.cond (.t 3) (.seq (.reg [sm 2 (.p (.mov (.c (.int .i64 1))))])
 .ret) .skip))
 (.seq (.reg [sm 2 (.p (.mov (.c zi6)))])
 .ret)))
def rs84 : List AR := [.tmp 2]
theorem ok84 : okF Tryz.prog 84 4 ac84 rs84 = true := by kernel_rfl
def ac85 : AC := (.seq (.reg [⟨some 2, .p (.mov (.c .nils)), none⟩])
 (.seq (.reg [⟨some 5, .p (.mov (.t 0)), none⟩,
   ⟨some 6, .p (.len false (.t 5)), none⟩,
   ⟨some 7, .call 93 [(.t 6)], none⟩,
   ⟨some 3, .p (.mov (.t 7)), none⟩])
 (.seq (.seq (.reg [⟨some 4, .p (.mov (.c (.int .i64 0))), none⟩])
 (.block 0 (.loop (.seq (.seq (.reg [⟨some 8, .p (.mov (.t 4)), none⟩,
   ⟨some 9, .p (.mov (.t 0)), none⟩,
   ⟨some 10, .p (.len false (.t 9)), none⟩,
   ⟨some 11, .p (.bin .lss (.t 8) (.t 10)), none⟩])
 (.cond (.t 11) .skip (.exit 0)))
 (.seq (.block 1 (.reg [⟨some 14, .p (.mov (.t 3)), none⟩,
   ⟨some 15, .p (.mov (.t 0)), none⟩,
   ⟨some 16, .p (.mov (.t 4)), none⟩,
   ⟨some 17, .p (.idxA 1 none (.t 15) (.t 16)), none⟩,
   ⟨some 18, .h (.load false 1 (.t 17)), none⟩,
   ⟨some 19, .call 93 [(.t 18)], none⟩,
   ⟨some 20, .l (.append 1 1 (.t 14) (.t 19)), none⟩,
   ⟨some 3, .p (.mov (.t 20)), none⟩]))
 (.reg [⟨some 12, .p (.mov (.t 4)), none⟩,
   ⟨some 13, .p (.bin .add (.t 12) (.c (.int .i64 1))), none⟩,
   ⟨some 4, .p (.mov (.t 13)), none⟩]))))))
 (.seq (.reg [⟨some 21, .p (.mov (.t 3)), none⟩,
   ⟨some 2, .p (.mov (.t 21)), none⟩])
 .ret))))
def rs85 : List AR := [.tmp 2]
theorem ok85 : okF Tryz.prog 85 22 ac85 rs85 = true := by kernel_rfl
def ac86 : AC := (.seq (.reg [sm 3 (.h (.box (.t 0))), sm 4 (.h (.box (.t 1))), sm 5 (.h (.box (.t 2))), sm 6 (.p (.mov (.c .nilf)))])
 (.seq (.reg [sm 7 (.p (.mkfn 94 [(.t 5), (.t 3), (.t 4)])), mv 6 7])
 .ret))
def rs86 : List AR := [.tmp 6]
theorem ok86 : okF Tryz.prog 86 8 ac86 rs86 = true := by kernel_rfl
def ac87 : AC := (.seq (.reg [sm 1 (.h (.box (.t 0))), sm 2 (.p (.mov (.c (.bool false))))])
 (.seq (.seq (.reg [fa 3 0 1, ld 4 3])
 (.block 0 (.seq (.reg [sm 6 (.p (.bin .eql (.t 4) (.c (.int .i64 3)))), mv 5 6])
 (.cond (.t 5) (.seq (.reg [fa 7 4 1, ld 8 7, sm 9 (.p (.len true (.t 8))), sm 10 (.p (.bin .eql (.t 9) (.c (.int .i64 1)))), mv 11 10, ⟨some 12, .p (.fieldA 3 (.t 1)), (some (11, true))⟩, ⟨some 13, .h (.load false 1 (.t 12)), (some (11, true))⟩, ⟨some 14, .p (.bin .eql (.t 13) (.c zi6)), (some (11, true))⟩, sm 15 (.p (.pick (.t 11) (.t 14) (.c (.bool false)))), mv 2 15])
 .ret) (.seq (.reg [sm 17 (.p (.bin .eql (.t 4) (.c (.int .i64 4)))), mv 16 17])
 (.cond (.t 16) (.seq (.reg [fa 18 3 1, ld 19 18, sm 20 (.p (.bin .eql (.t 19) (.c zi6))), mv 2 20])
 .ret) .skip))))))
 (.seq (.reg [fa 21 4 1, ld 22 21, ⟨some 23, .p (.bin .eql (.t 22) (.c (.str ⟨#[]⟩))), none⟩, mv 2 23])
 .ret)))
def rs87 : List AR := [.tmp 2]
theorem ok87 : okF Tryz.prog 87 24 ac87 rs87 = true := by kernel_rfl
def ac88 : AC := (.seq (.reg [sm 3 (.h (.box (.t 0))), sm 6 (.h (.alloc [zi6, (.bool false), (.bool false), (.bool false), (.bool false), zi6, zi6, zi6, zi6, zi6, zi6, zi6, zi6])), sm 7 (.p (.mov (.c zi6)))])
 (.seq (.draw 29 [(23, 26), (17, 26), (1, 26), (13, 26), (26, 27)] [mv 9 1, sm 10 (.call 97 [(.t 9)]), sm 11 (.p (.un .not (.t 10))), sm 12 (.v (.build [(.bool false), zi6] [(0, 1, (.t 11)), (1, 1, (.c (.int .i64 1)))])), mv 13 2, sm 14 (.p (.bin .lss (.t 13) (.c zi6))), mv 15 14, ⟨some 16, .p (.mov (.t 2)), (some (15, false))⟩, ⟨some 17, .p (.bin .gtr (.t 16) (.c (.int .i64 2147483647))), (some (15, false))⟩, sm 18 (.p (.pick (.t 15) (.c (.bool true)) (.t 17))), sm 19 (.v (.build [(.bool false), zi6] [(0, 1, (.t 18)), (1, 1, (.c (.int .i64 7)))])), mv 20 2, fa 21 0 3, ld 22 21, sm 23 (.p (.bin .lss (.t 20) (.t 22))), sm 24 (.v (.build [(.bool false), zi6] [(0, 1, (.t 23)), (1, 1, (.c (.int .i64 9)))])), mv 25 1, sm 26 (.call 97 [(.t 25)]), mv 27 26, ⟨some 28, .p (.mov (.t 1)), (some (27, true))⟩, ⟨some 29, .p (.binw .and (.t 28) (.c (.int .i64 3))), (some (27, true))⟩, ⟨some 30, .p (.fieldA 1 (.t 3)), (some (27, true))⟩, ⟨some 31, .p (.idxA 1 (some 4) (.t 30) (.t 29)), (some (27, true))⟩, ⟨some 32, .h (.load false 1 (.t 31)), (some (27, true))⟩, sm 33 (.p (.pick (.t 27) (.t 32) (.c (.bool false)))), sm 34 (.v (.build [(.bool false), zi6] [(0, 1, (.t 33)), (1, 1, (.c (.int .i64 4)))])), sm 35 (.d (.bslice 2 4 [(.bool false), zi6] [(0, (.t 12)), (2, (.t 19)), (4, (.t 24)), (6, (.t 34))])), sm 36 (.call 96 [(.t 35)]), mv 8 36])
 (.seq (.seq (.reg [mv 37 8, sm 38 (.p (.bin .neq (.t 37) (.c zi6)))])
 (.cond (.t 38) (.seq (.reg [la 39 13 3, mv 40 8, st 13 6 39, mv 7 40])
 .ret) .skip))
 (.seq (.reg [mv 41 1, mv 42 1, mv 43 2, mv 44 2, fa 45 0 3, st 1 45 43, fa 46 1 3, sm 47 (.p (.idxA 1 (some 4) (.t 46) (.t 41))), ⟨none, .h (.store 1 (.t 47) (.c (.bool true))), none⟩, fa 48 5 3, sm 49 (.p (.idxA 1 (some 4) (.t 48) (.t 42))), st 1 49 44])
 (.seq (.reg [la 50 13 3, st 13 6 50, sm 7 (.p (.mov (.c zi6)))])
 .ret)))))
def rs88 : List AR := [.cell 6 true 13, .tmp 7]
theorem ok88 : okF Tryz.prog 88 51 ac88 rs88 = true := by kernel_rfl
def ac89 : AC := (.seq (.reg [sm 2 (.h (.box (.t 0))), sm 4 (.h (.alloc [(.str .empty), zi6])), sm 5 (.p (.mov (.c (.bool false))))])
 (.seq (.seq (.reg [fa 6 0 2, ld 7 6, sm 8 (.p (.len true (.t 7))), sm 9 (.p (.bin .eql (.t 8) (.c (.int .i64 64))))])
 (.cond (.t 9) (.seq (.reg [fa 10 1 2, ld 11 10, sm 12 (.p (.bin .add (.t 11) (.c (.int .i64 1)))), sm 13 (.p (.mm false (.t 12) (.c (.int .i64 1099511627776)))), fa 14 1 2, st 1 14 13])
 (.seq (.reg [la 15 2 2, st 2 4 15, sm 5 (.p (.mov (.c (.bool false))))])
 .ret)) .skip))
 (.seq (.reg [fa 16 0 2, ld 17 16, mv 18 1, sm 19 (.d (.bslice 1 1 [zu8] [(0, (.t 18))])), sm 20 (.d (.sl2s (.t 19))), sm 21 (.p (.bin .add (.t 17) (.t 20))), fa 22 0 2, st 1 22 21])
 (.seq (.reg [la 23 2 2, st 2 4 23, sm 5 (.p (.mov (.c (.bool true))))])
 .ret))))
def rs89 : List AR := [.cell 4 true 2, .tmp 5]
theorem ok89 : okF Tryz.prog 89 24 ac89 rs89 = true := by kernel_rfl
def ac90 : AC := (.seq (.reg [sm 3 (.h (.box (.t 0))), sm 6 (.h (.alloc [zi6, zu3, zu3, zu3, zu3, zu3, zu3, zu3, zu3, zi6, zi6, zi6, zi6, zi6, zi6, (.bool false), (.bool false), (.bool false), (.bool false), zi6, zi6, zi6, zi6, zi6, zi6, zi6, zi6, (.str .empty), zi6, zu3, zu3, zi6, zi6, .nils, .nils, zu3, zu3, zu3, zu3, zi6, zi6, zi6, zi6]))])
 (.seq (.seq (.reg [mv 7 2])
 (.cond (.t 7) (.reg [fa 8 0 3, la 9 14 8, mv 10 1, sm 11 (.call 98 [(.t 9), (.t 10), (.c zi6)]), fa 12 0 3, st 14 12 11]) .skip))
 (.seq (.reg [la 13 43 3, st 43 6 13])
 .ret)))
def rs90 : List AR := [.cell 6 true 43]
theorem ok90 : okF Tryz.prog 90 14 ac90 rs90 = true := by kernel_rfl
def rfA910 : AC := (.reg [sm 9 (.h (.alloc [zi6, .nils, zi6])), st 3 9 30])
def rfB910 : AC := (.block 1 (.seq (.reg [ld 31 8, la 32 3 9, ld 33 5, sm 34 (.call 100 [(.t 31), (.t 32), (.t 33)])])
 (.exit 0)))
def ac91 : AC := (.seq (.reg [sm 3 (.h (.box (.t 0))), sm 4 (.h (.box (.t 1))), sm 5 (.h (.box (.t 2))), sm 6 (.h (.alloc [zu3, zu3, zu3, zu3, zi6, zi6, zi6, zi6])), sm 7 (.h (.alloc [.nils, zu3, .nils, (.bool false), (.bool false)]))])
 (.seq (.reg [la 10 1 4, sm 11 (.v (.build [.nils, zu3, .nils, (.bool false), (.bool false)] [(0, 1, (.t 10))])), la 12 8 3, sm 13 (.v (.build [.nils, zu3, .nils, (.bool false), (.bool false), zu3, zu3, zu3, zu3, zi6, zi6, zi6, zi6] [(0, 5, (.t 11)), (5, 8, (.t 12))])), sm 14 (.h (.box (.t 13))), sm 8 (.h (.alloc [.nilp])), st 1 8 14])
 (.seq (.seq (.reg [ld 15 5, ⟨some 16, .p (.bin .neq (.t 15) (.c (.str ⟨#[]⟩))), none⟩, mv 17 16, ⟨some 18, .h (.load false 1 (.t 5)), (some (17, true))⟩, ⟨some 19, .p (.len true (.t 18)), (some (17, true))⟩, ⟨some 20, .p (.bin .leq (.t 19) (.c (.int .i64 512))), (some (17, true))⟩, sm 21 (.p (.pick (.t 17) (.t 20) (.c (.bool false))))])
 (.cond (.t 21) (.seq (.draw 7 [] [ld 22 8, fa 23 2 3, la 24 2 23, ld 25 8, sm 26 (.p (.nilchk (.t 25))), fa 27 5 26, fa 28 5 27, sm 29 (.call 99 [(.t 22), (.t 24), (.t 28)])])
 (.block 0 (.rangeF 910 (.t 29) [5, 8] [30] rfA910 rfB910))) .skip))
 (.seq (.seq (.reg [ld 35 8, sm 36 (.p (.nilchk (.t 35))), fa 37 0 36, fa 38 4 37, ld 39 38, sm 40 (.p (.un .not (.t 39)))])
 (.cond (.t 40) (.draw 12 [(0, 11), (1, 11), (5, 11)] [ld 41 8, ld 42 8, sm 43 (.p (.nilchk (.t 42))), fa 44 5 43, fa 45 7 44, ld 46 45, sm 47 (.p (.bin .add (.t 46) (.c (.int .i64 1)))), sm 48 (.p (.mm false (.t 47) (.c (.int .i64 1099511627776)))), sm 49 (.p (.nilchk (.t 41))), fa 50 5 49, fa 51 7 50, st 1 51 48]) .skip))
 (.seq (.draw 10 [(3, 8), (0, 8), (7, 9), (8, 9), (0, 9), (3, 9), (4, 9)] [ld 52 8, sm 53 (.p (.nilchk (.t 52))), fa 54 5 53, la 55 8 54, ld 56 8, sm 57 (.p (.nilchk (.t 56))), fa 58 0 57, la 59 5 58, st 8 6 55, st 5 7 59])
 .ret)))))
def rs91 : List AR := [.cell 6 true 8, .cell 7 true 5]
theorem ok91 : okF Tryz.prog 91 60 ac91 rs91 = true := by kernel_rfl
def ac92 : AC := (.seq (.reg [sm 3 (.h (.box (.t 0))), sm 4 (.h (.box (.t 1))), sm 6 (.h (.alloc [zu3, zu3, zi6, zi6, .nils, .nils])), sm 7 (.h (.alloc [.nils, zu3, .nils, (.bool false), (.bool false)]))])
 (.seq (.seq (.reg [mv 10 2, sm 11 (.p (.bin .lss (.t 10) (.c zi6))), mv 12 11, ⟨some 13, .p (.mov (.t 2)), (some (12, false))⟩, ⟨some 14, .p (.fieldA 5 (.t 3)), (some (12, false))⟩, ⟨some 15, .h (.load false 1 (.t 14)), (some (12, false))⟩, ⟨some 16, .p (.len false (.t 15)), (some (12, false))⟩, ⟨some 17, .p (.bin .geq (.t 13) (.t 16)), (some (12, false))⟩, sm 18 (.p (.pick (.t 12) (.c (.bool true)) (.t 17)))])
 (.cond (.t 18) (.seq (.draw 5 [(0, 3), (3, 4), (0, 4), (1, 4)] [la 19 6 3, la 20 1 4, sm 21 (.v (.build [.nils, zu3, .nils, (.bool false), (.bool false)] [(0, 1, (.t 20))])), st 6 6 19, st 5 7 21])
 .ret) .skip))
 (.seq (.reg [fa 22 5 3, ld 23 22, mv 24 2, sm 25 (.p (.idxA 5 none (.t 23) (.t 24))), la 26 5 25, sm 8 (.h (.alloc [zu3, zu3, zi6, (.bool false), .nils])), st 5 8 26])
 (.seq (.reg [fa 27 4 8, ld 28 27, sm 29 (.v (.sub 4 (.t 28) (some (.c (.int .i64 1))) none none)), mv 9 29])
 (.seq (.seq (.reg [fa 30 3 8, ld 31 30])
 (.cond (.t 31) (.seq (.reg [fa 32 4 3, ld 33 32, sm 34 (.l (.append 128 128 (.c .nils) (.t 33))), fa 35 4 3, st 1 35 34])
 (.draw 10 [(5, 9), (8, 9), (6, 9), (1, 9), (3, 9)] [fa 36 4 3, ld 37 36, fa 38 2 8, ld 39 38, sm 40 (.p (.idxA 128 none (.t 37) (.t 39))), sm 41 (.d (.asub 1 128 (.t 40) none none)), la 42 1 4, mv 43 9, sm 44 (.call 101 [(.t 42), (.t 43)]), sm 45 (.m (.copyS (.t 41) (.t 44)))])) (.draw 16 [(11, 15), (0, 15), (3, 15), (5, 15), (8, 15), (9, 15)] [la 47 1 4, mv 48 9, fa 49 4 3, ld 50 49, fa 51 2 8, ld 52 51, sm 53 (.p (.idxA 128 none (.t 50) (.t 52))), mv 54 9, sm 55 (.call 103 [(.t 54)]), sm 56 (.d (.asub 1 128 (.t 53) none (some (.t 55)))), sm 57 (.d (.sl2s (.t 56))), sm 58 (.call 102 [(.t 47), (.t 48), (.t 57)]), mv 46 58, sm 59 (.p (.extract 0 (.t 46))), sm 60 (.p (.extract 1 (.t 46))), st 1 4 59])))
 (.seq (.draw 13 [(6, 10), (1, 10), (10, 12), (1, 12), (6, 12)] [fa 61 5 3, ld 62 61, mv 63 2, mv 64 2, sm 65 (.v (.sub 5 (.t 62) none (some (.t 63)) (some (.t 64)))), fa 66 5 3, ld 67 66, mv 68 2, sm 69 (.p (.bin .add (.t 68) (.c (.int .i64 1)))), sm 70 (.v (.sub 5 (.t 67) (some (.t 69)) none none)), sm 71 (.l (.append 5 48 (.t 65) (.t 70))), fa 72 5 3, st 1 72 71])
 (.seq (.draw 10 [(0, 8), (6, 8), (1, 8), (3, 8), (5, 8), (8, 9), (0, 9), (1, 9), (3, 9), (5, 9), (6, 9)] [la 73 6 3, la 74 1 4, fa 75 0 8, la 76 2 75, fa 77 4 8, ld 78 77, sm 79 (.call 104 [(.t 74), (.t 76), (.t 78)]), sm 80 (.v (.build [.nils, zu3, .nils, (.bool false), (.bool false)] [(0, 1, (.t 79)), (3, 1, (.c (.bool true))), (4, 1, (.c (.bool true)))])), st 6 6 73, st 5 7 80])
 .ret)))))))
def rs92 : List AR := [.cell 6 true 6, .cell 7 true 5]
theorem ok92 : okF Tryz.prog 92 81 ac92 rs92 = true := by kernel_rfl
def ac93 : AC := (.seq (.reg [⟨some 2, .p (.mov (.c .nils)), none⟩])
 (.seq (.reg [⟨some 5, .p (.mov (.t 0)), none⟩,
   ⟨some 6, .p (.convw .u64 (.t 5)), none⟩,
   ⟨some 7, .p (.binw .mul (.t 6) (.c (.int .u64 2))), none⟩,
   ⟨some 3, .p (.mov (.t 7)), none⟩])
 (.seq (.seq (.reg [⟨some 8, .p (.mov (.t 0)), none⟩,
   ⟨some 9, .p (.bin .lss (.t 8) (.c (.int .i64 0))), none⟩])
 (.cond (.t 9) (.reg [⟨some 10, .p (.mov (.t 0)), none⟩,
   ⟨some 11, .p (.bin .sub (.c (.int .i64 (-1))) (.t 10)), none⟩,
   ⟨some 12, .p (.convw .u64 (.t 11)), none⟩,
   ⟨some 13, .p (.binw .mul (.t 12) (.c (.int .u64 2))), none⟩,
   ⟨some 14, .p (.binw .add (.t 13) (.c (.int .u64 1))), none⟩,
   ⟨some 3, .p (.mov (.t 14)), none⟩]) .skip))
 (.seq (.reg [⟨some 4, .p (.mov (.c .nils)), none⟩])
 (.seq (.block 0 (.loop (.seq (.seq (.reg [⟨some 15, .p (.mov (.t 3)), none⟩,
   ⟨some 16, .p (.binw .geq (.t 15) (.c (.int .u64 128))), none⟩])
 (.cond (.t 16) .skip (.exit 0)))
 (.block 1 (.seq (.reg [⟨some 17, .p (.mov (.t 4)), none⟩,
   ⟨some 18, .p (.mov (.t 3)), none⟩,
   ⟨some 19, .p (.binw .rem (.t 18) (.c (.int .u64 128))), none⟩,
   ⟨some 20, .p (.convw .u8 (.t 19)), none⟩,
   ⟨some 21, .p (.binw .add (.t 20) (.c (.int .u8 128))), none⟩,
   ⟨some 22, .d (.bslice 1 1 [(.int .u8 0)] [(0, (.t 21))]), none⟩,
   ⟨some 23, .l (.append 1 1 (.t 17) (.t 22)), none⟩,
   ⟨some 4, .p (.mov (.t 23)), none⟩])
 (.reg [⟨some 24, .p (.mov (.t 3)), none⟩,
   ⟨some 25, .p (.binw .quo (.t 24) (.c (.int .u64 128))), none⟩,
   ⟨some 3, .p (.mov (.t 25)), none⟩]))))))
 (.seq (.reg [⟨some 26, .p (.mov (.t 4)), none⟩,
   ⟨some 27, .p (.mov (.t 3)), none⟩,
   ⟨some 28, .p (.convw .u8 (.t 27)), none⟩,
   ⟨some 29, .d (.bslice 1 1 [(.int .u8 0)] [(0, (.t 28))]), none⟩,
   ⟨some 30, .l (.append 1 1 (.t 26) (.t 29)), none⟩,
   ⟨some 2, .p (.mov (.t 30)), none⟩])
 .ret))))))
def rs93 : List AR := [.tmp 2]
theorem ok93 : okF Tryz.prog 93 31 ac93 rs93 = true := by kernel_rfl
def ac94 : AC := (.seq (.reg [ld 8 1, sm 9 (.p (.mov (.c zi6)))])
 (.block 0 (.loop (.seq (.reg [sm 10 (.p (.bin .lss (.t 9) (.t 8)))])
 (.seq (.cond (.t 10) .skip (.exit 0))
 (.seq (.block 1 (.seq (.reg [mv 11 9, mv 5 11])
 (.seq (.reg [ld 13 2, ld 14 3, sm 15 (.call 95 [(.t 13), (.t 14)]), mv 12 15, sm 16 (.p (.extract 0 (.t 12))), sm 17 (.p (.extract 1 (.t 12))), sm 6 (.h (.alloc [(.bool false), zu3, zu3, zu3, zu3, zu3, zu3, zu3, zu3, zu3, zu3, zu3, zu3, zu3, zu3, zu3, zu3, zu3, zu3, zu3, zu3, zu3, zu3, zu3, zu3, zu3, zu3, (.bool false), (.bool false), (.bool false), zi6, zu3, zu3, zu3, zu3, zu3, zu3, zu3, zu3, zu3, zu3, zu3, zu3, zu3, zu3, zu3, zu3, zu3, zu3, zu3, zu3, zu3, zu3, zu3, zu3, zu3, zu3, (.bool false), (.bool false), (.bool false), zi6, zu3, .nils, .nils, (.bool false), (.bool false), zi6, zu3, zi6, zu3, zi6])), st 71 6 16, mv 7 17])
 (.seq (.seq (.reg [mv 18 7, sm 19 (.p (.bin .eql (.t 18) (.c zi6))), mv 20 19, ⟨some 21, .p (.fieldA 0 (.t 6)), (some (20, true))⟩, ⟨some 22, .h (.load false 1 (.t 21)), (some (20, true))⟩, ⟨some 23, .p (.un .not (.t 22)), (some (20, true))⟩, sm 24 (.p (.pick (.t 20) (.t 23) (.c (.bool false))))])
 (.cond (.t 24) (.reg [sm 7 (.p (.mov (.c (.int .i64 4))))]) .skip))
 (.seq (.seq (.reg [mv 25 7, sm 26 (.p (.bin .neq (.t 25) (.c zi6)))])
 (.cond (.t 26) (.seq (.reg [mv 27 0, mv 28 5, mv 29 7, sm 30 (.callv (.t 27) [(.t 28), (.t 29)])])
 .ret) .skip))
 (.seq (.reg [mv 31 0, mv 32 5, sm 33 (.p (.bin .add (.t 32) (.c (.int .i64 1)))), sm 34 (.callv (.t 31) [(.t 33), (.c zi6)]), sm 35 (.p (.un .not (.t 34)))])
 (.cond (.t 35) .ret .skip)))))))
 (.reg [sm 36 (.p (.bin .add (.t 9) (.c (.int .i64 1)))), mv 9 36])))))))
def rs94 : List AR := []
theorem ok94 : okF Tryz.prog 94 37 ac94 rs94 = true := by kernel_rfl
def ac95 : AC := (.seq (.reg [sm 4 (.h (.alloc [(.bool false), zu3, zu3, zu3, zu3, zu3, zu3, zu3, zu3, zu3, zu3, zu3, zu3, zu3, zu3, zu3, zu3, zu3, zu3, zu3, zu3, zu3, zu3, zu3, zu3, zu3, zu3, (.bool false), (.bool false), (.bool false), zi6, zu3, zu3, zu3, zu3, zu3, zu3, zu3, zu3, zu3, zu3, zu3, zu3, zu3, zu3, zu3, zu3, zu3, zu3, zu3, zu3, zu3, zu3, zu3, zu3, zu3, zu3, (.bool false), (.bool false), (.bool false), zi6, zu3, .nils, .nils, (.bool false), (.bool false), zi6, zu3, zi6, zu3, zi6])), sm 5 (.p (.mov (.c zi6)))])
 (.seq (.seq (.reg [mv 11 0, sm 12 (.p (.nilchk (.t 11))), fa 13 0 12, fa 14 0 13, ld 15 14, mv 16 1, sm 17 (.p (.idxA 30 none (.t 15) (.t 16))), fa 18 29 17, ld 19 18, sm 20 (.p (.bin .geq (.t 19) (.c (.int .i64 1099511627776)))), mv 21 20, ⟨some 22, .p (.mov (.t 0)), (some (21, false))⟩, ⟨some 23, .p (.nilchk (.t 22)), (some (21, false))⟩, ⟨some 24, .p (.fieldA 0 (.t 23)), (some (21, false))⟩, ⟨some 25, .p (.fieldA 46 (.t 24)), (some (21, false))⟩, ⟨some 26, .h (.load false 1 (.t 25)), (some (21, false))⟩, ⟨some 27, .p (.bin .gtr (.t 26) (.c (.int .i64 1125899906842616))), (some (21, false))⟩, sm 28 (.p (.pick (.t 21) (.c (.bool true)) (.t 27)))])
 (.cond (.t 28) (.seq (.reg [sm 29 (.v (.build [(.bool false), zu3, zu3, zu3, zu3, zu3, zu3, zu3, zu3, zu3, zu3, zu3, zu3, zu3, zu3, zu3, zu3, zu3, zu3, zu3, zu3, zu3, zu3, zu3, zu3, zu3, zu3, (.bool false), (.bool false), (.bool false), zi6, zu3, zu3, zu3, zu3, zu3, zu3, zu3, zu3, zu3, zu3, zu3, zu3, zu3, zu3, zu3, zu3, zu3, zu3, zu3, zu3, zu3, zu3, zu3, zu3, zu3, zu3, (.bool false), (.bool false), (.bool false), zi6, zu3, .nils, .nils, (.bool false), (.bool false), zi6, zu3, zi6, zu3, zi6] [])), st 71 4 29, sm 5 (.p (.mov (.c (.int .i64 2))))])
 .ret) .skip))
 (.seq (.draw 23 [(21, 22), (20, 22), (4, 22), (7, 22), (12, 22), (17, 22), (19, 22)] [mv 30 0, sm 31 (.p (.nilchk (.t 30))), fa 32 0 31, fa 33 0 32, ld 34 33, mv 35 1, sm 36 (.p (.idxA 30 none (.t 34) (.t 35))), la 37 30 36, mv 38 0, sm 39 (.p (.nilchk (.t 38))), fa 40 0 39, fa 41 1 40, la 42 1 41, mv 43 0, sm 44 (.p (.nilchk (.t 43))), fa 45 0 44, fa 46 2 45, la 47 43 46, mv 48 1, sm 49 (.call 106 [(.t 47), (.t 48)]), sm 50 (.call 105 [(.t 37), (.t 42), (.t 49)]), sm 6 (.h (.alloc [(.bool false), zu3, zu3, zu3, zu3, zu3, zu3, zu3, zu3, zu3, zu3, zu3, zu3, zu3, zu3, zu3, zu3, zu3, zu3, zu3, zu3, zu3, zu3, zu3, zu3, zu3, zu3, (.bool false), (.bool false), (.bool false), zi6, zu3, zu3, zu3, zu3, zu3, zu3, zu3, zu3, zu3, zu3, zu3, zu3, zu3, zu3, zu3, zu3, zu3, zu3, zu3, zu3, zu3, zu3, zu3, zu3, zu3, zu3, (.bool false), (.bool false), (.bool false), zi6, zu3, .nils, .nils, (.bool false), (.bool false), zi6, zu3, zi6, zu3, zi6])), st 71 6 50])
 (.seq (.seq (.reg [fa 51 0 6, ld 52 51, sm 53 (.p (.un .not (.t 52)))])
 (.cond (.t 53) (.seq (.reg [la 54 71 6, st 71 4 54, sm 5 (.p (.mov (.c zi6)))])
 .ret) .skip))
 (.seq (.draw 14 [(10, 12), (4, 12), (11, 12), (11, 13), (9, 13), (12, 13), (4, 13), (10, 13)] [mv 55 0, sm 56 (.p (.nilchk (.t 55))), fa 57 0 56, fa 58 1 57, la 59 1 58, mv 60 0, sm 61 (.p (.nilchk (.t 60))), fa 62 0 61, fa 63 2 62, la 64 43 63, sm 7 (.h (.alloc [.nils])), sm 8 (.h (.alloc [zi6, zu3, zu3, zu3, zu3, zu3, zu3, zu3, zu3, zi6, zi6, zi6, zi6, zi6, zi6, (.bool false), (.bool false), (.bool false), (.bool false), zi6, zi6, zi6, zi6, zi6, zi6, zi6, zi6, (.str .empty), zi6, zu3, zu3, zi6, zi6, .nils, .nils, zu3, zu3, zu3, zu3, zi6, zi6, zi6, zi6])), st 1 7 59, st 43 8 64])
 (.seq (.seq (.reg [fa 65 62 6, ld 66 65, sm 67 (.p (.len false (.t 66))), sm 68 (.p (.bin .gtr (.t 67) (.c zi6)))])
 (.cond (.t 68) (.reg [la 70 1 7, fa 71 62 6, ld 72 71, sm 73 (.call 107 [(.t 70), (.t 72)]), mv 69 73, sm 74 (.p (.extract 0 (.t 69))), sm 75 (.p (.extract 1 (.t 69))), st 1 7 74]) .skip))
 (.seq (.seq (.reg [fa 76 64 6, ld 77 76])
 (.cond (.t 77) (.seq (.reg [la 79 43 8, la 80 1 7, mv 81 1, fa 82 1 6, fa 83 29 82, ld 84 83, fa 85 65 6, la 86 3 85, sm 87 (.call 108 [(.t 79), (.t 80), (.t 81), (.t 84), (.t 86)]), mv 78 87, sm 88 (.p (.extract 0 (.t 78))), sm 89 (.p (.extract 1 (.t 78))), sm 9 (.h (.alloc [zi6, zu3, zu3, zu3, zu3, zu3, zu3, zu3, zu3, zi6, zi6, zi6, zi6, zi6, zi6, (.bool false), (.bool false), (.bool false), (.bool false), zi6, zi6, zi6, zi6, zi6, zi6, zi6, zi6, (.str .empty), zi6, zu3, zu3, zi6, zi6, .nils, .nils, zu3, zu3, zu3, zu3, zi6, zi6, zi6, zi6])), sm 10 (.h (.alloc [.nils, zu3, .nils, zi6])), st 43 9 88, st 4 10 89])
 (.seq (.seq (.reg [fa 90 3 10, ld 91 90, sm 92 (.p (.bin .eql (.t 91) (.c (.int .i64 4))))])
 (.cond (.t 92) (.seq (.draw 5 [] [sm 93 (.v (.build [(.bool false), zu3, zu3, zu3, zu3, zu3, zu3, zu3, zu3, zu3, zu3, zu3, zu3, zu3, zu3, zu3, zu3, zu3, zu3, zu3, zu3, zu3, zu3, zu3, zu3, zu3, zu3, (.bool false), (.bool false), (.bool false), zi6, zu3, zu3, zu3, zu3, zu3, zu3, zu3, zu3, zu3, zu3, zu3, zu3, zu3, zu3, zu3, zu3, zu3, zu3, zu3, zu3, zu3, zu3, zu3, zu3, zu3, zu3, (.bool false), (.bool false), (.bool false), zi6, zu3, .nils, .nils, (.bool false), (.bool false), zi6, zu3, zi6, zu3, zi6] [])), fa 94 3 10, ld 95 94, st 71 4 93, mv 5 95])
 .ret) .skip))
 (.seq (.reg [la 96 71 6, fa 97 1 10, ld 98 97, fa 99 3 10, ld 100 99, sm 101 (.p (.bin .eql (.t 100) (.c zi6))), sm 102 (.call 109 [(.t 96), (.t 98), (.t 101)]), st 71 6 102])
 (.seq (.draw 5 [(1, 3), (2, 4), (3, 4), (1, 4)] [fa 103 0 10, la 104 1 103, la 105 43 9, st 1 7 104, st 43 8 105])
 (.reg [mv 106 0, fa 107 2 10, ld 108 107, sm 109 (.call 110 [(.t 106), (.t 108)])]))))) .skip))
 (.seq (.reg [mv 110 0, la 111 1 7, sm 112 (.p (.nilchk (.t 110))), fa 113 0 112, fa 114 1 113, st 1 114 111])
 (.seq (.reg [mv 115 0, mv 116 0, sm 117 (.p (.nilchk (.t 116))), fa 118 0 117, fa 119 0 118, ld 120 119, sm 121 (.l (.append 30 120 (.c .nils) (.t 120))), sm 122 (.p (.nilchk (.t 115))), fa 123 0 122, fa 124 0 123, st 1 124 121])
 (.seq (.draw 10 [(7, 9), (4, 9)] [mv 125 0, sm 126 (.p (.nilchk (.t 125))), fa 127 0 126, fa 128 0 127, ld 129 128, mv 130 1, fa 131 1 6, la 132 30 131, sm 133 (.p (.idxA 30 none (.t 129) (.t 130))), st 30 133 132])
 (.seq (.reg [mv 134 0, la 135 43 8, mv 136 1, fa 137 1 6, fa 138 29 137, ld 139 138, sm 140 (.call 111 [(.t 135), (.t 136), (.t 139)]), sm 141 (.p (.nilchk (.t 134))), fa 142 0 141, fa 143 2 142, st 43 143 140])
 (.seq (.reg [la 144 71 6, st 71 4 144, sm 5 (.p (.mov (.c zi6)))])
 .ret))))))))))))
def rs95 : List AR := [.cell 4 true 71, .tmp 5]
theorem ok95 : okF Tryz.prog 95 145 ac95 rs95 = true := by kernel_rfl
def ac96 : AC := (.seq (.reg [sm 2 (.p (.mov (.c zi6)))])
 (.seq (.seq (.reg [mv 5 0, sm 6 (.p (.len false (.t 5))), sm 7 (.p (.mov (.c zi6)))])
 (.block 0 (.loop (.seq (.reg [sm 8 (.p (.bin .lss (.t 7) (.t 6)))])
 (.seq (.cond (.t 8) .skip (.exit 0))
 (.seq (.block 1 (.seq (.reg [sm 9 (.p (.idxA 2 none (.t 5) (.t 7))), la 10 2 9, sm 4 (.h (.alloc [(.bool false), zi6])), st 2 4 10])
 (.seq (.reg [fa 11 0 4, ld 12 11])
 (.cond (.t 12) (.seq (.reg [fa 13 1 4, ld 14 13, mv 2 14])
 .ret) .skip))))
 (.reg [sm 15 (.p (.bin .add (.t 7) (.c (.int .i64 1)))), mv 7 15])))))))
 (.seq (.reg [sm 2 (.p (.mov (.c zi6)))])
 .ret)))
def rs96 : List AR := [.tmp 2]
theorem ok96 : okF Tryz.prog 96 16 ac96 rs96 = true := by kernel_rfl
def ac97 : AC := (.seq (.reg [sm 2 (.p (.mov (.c (.bool false))))])
 (.seq (.reg [mv 3 0, sm 4 (.p (.bin .geq (.t 3) (.c zi6))), mv 5 4, ⟨some 6, .p (.mov (.t 0)), (some (5, true))⟩, ⟨some 7, .p (.bin .lss (.t 6) (.c (.int .i64 4))), (some (5, true))⟩, sm 8 (.p (.pick (.t 5) (.t 7) (.c (.bool false)))), mv 2 8])
 .ret))
def rs97 : List AR := [.tmp 2]
theorem ok97 : okF Tryz.prog 97 9 ac97 rs97 = true := by kernel_rfl
def ac98 : AC := (.seq (.reg [sm 3 (.h (.box (.t 0))), sm 6 (.h (.alloc [zi6, zu3, zu3, zu3, zu3, zu3, zu3, zu3, zu3, zi6, zi6, zi6, zi6, zi6]))])
 (.seq (.seq (.reg [mv 7 1, sm 8 (.p (.bin .lss (.t 7) (.c zi6))), mv 9 8, ⟨some 10, .p (.mov (.t 1)), (some (9, false))⟩, ⟨some 11, .p (.bin .geq (.t 10) (.c (.int .i64 5))), (some (9, false))⟩, sm 12 (.p (.pick (.t 9) (.c (.bool true)) (.t 11)))])
 (.cond (.t 12) (.seq (.reg [la 13 14 3, st 14 6 13])
 .ret) .skip))
 (.seq (.seq (.reg [mv 14 1, sm 15 (.p (.convw .u32 (.t 14))), sm 16 (.call 112 [(.t 15)])])
 (.cond (.t 16) (.reg [mv 17 1, fa 18 9 3, sm 19 (.p (.idxA 1 (some 5) (.t 18) (.t 17))), ld 20 19, mv 2 20]) .skip))
 (.seq (.draw 10 [(3, 9)] [mv 21 2, fa 22 1 3, sm 23 (.p (.idxA 1 (some 4) (.t 22) (.t 21))), ld 24 23, mv 25 1, sm 26 (.p (.binw .shl (.c (.int .u32 1)) (.t 25))), sm 27 (.p (.binw .or (.t 24) (.t 26))), fa 28 1 3, sm 29 (.p (.idxA 1 (some 4) (.t 28) (.t 21))), st 1 29 27])
 (.seq (.reg [la 30 14 3, st 14 6 30])
 .ret)))))
def rs98 : List AR := [.cell 6 true 14]
theorem ok98 : okF Tryz.prog 98 31 ac98 rs98 = true := by kernel_rfl
def ac99 : AC := (.seq (.reg [sm 3 (.h (.box (.t 0))), sm 4 (.h (.box (.t 1))), sm 5 (.h (.box (.t 2))), sm 6 (.p (.mov (.c .nilf)))])
 (.seq (.reg [sm 7 (.p (.mkfn 113 [(.t 3), (.t 4), (.t 5)])), mv 6 7])
 .ret))
def rs99 : List AR := [.tmp 6]
theorem ok99 : okF Tryz.prog 99 8 ac99 rs99 = true := by kernel_rfl
def ac100 : AC := (.seq (.reg [sm 4 (.h (.box (.t 1)))])
 (.seq (.seq (.reg [fa 8 2 4, ld 9 8, sm 10 (.p (.bin .neq (.t 9) (.c zi6)))])
 (.cond (.t 10) .ret .skip))
 (.seq (.seq (.reg [fa 11 1 4, ld 12 11, mv 13 2, sm 14 (.p (.len true (.t 13))), sm 15 (.call 118 [(.t 12), (.c (.bool true)), (.t 14), (.c (.int .i64 1048576))]), mv 6 15])
 (.seq (.reg [mv 16 6, sm 17 (.p (.bin .neq (.t 16) (.c zi6)))])
 (.cond (.t 17) (.seq (.draw 9 [] [mv 18 0, mv 19 0, sm 20 (.p (.nilchk (.t 19))), fa 21 5 20, fa 22 2 21, la 23 2 22, fa 24 0 4, ld 25 24, mv 26 6, sm 27 (.call 119 [(.t 18), (.t 23), (.t 25), (.t 26)])])
 .ret) .skip)))
 (.seq (.draw 17 [(9, 16), (5, 16), (7, 16)] [mv 29 0, mv 30 0, sm 31 (.p (.nilchk (.t 30))), fa 32 0 31, fa 33 0 32, la 34 1 33, fa 35 1 4, ld 36 35, mv 37 2, sm 38 (.call 102 [(.t 34), (.t 36), (.t 37)]), mv 28 38, sm 39 (.p (.extract 0 (.t 28))), sm 40 (.p (.extract 1 (.t 28))), sm 41 (.p (.nilchk (.t 29))), fa 42 0 41, fa 43 0 42, st 1 43 39])
 (.seq (.draw 18 [(13, 17), (5, 17), (10, 17), (12, 17)] [mv 44 0, mv 45 0, sm 46 (.p (.nilchk (.t 45))), fa 47 0 46, fa 48 0 47, la 49 1 48, mv 50 0, sm 51 (.p (.nilchk (.t 50))), fa 52 5 51, fa 53 2 52, la 54 2 53, fa 55 1 4, ld 56 55, sm 57 (.call 104 [(.t 49), (.t 54), (.t 56)]), sm 58 (.p (.nilchk (.t 44))), fa 59 0 58, fa 60 0 59, st 1 60 57])
 (.seq (.draw 13 [] [mv 61 0, sm 62 (.p (.nilchk (.t 61))), fa 63 5 62, fa 64 2 63, fa 65 0 64, ld 66 65, sm 67 (.p (.conv .i64 (.t 66))), fa 68 0 4, ld 69 68, sm 70 (.p (.bin .mul (.c (.int .i64 16)) (.t 69))), sm 71 (.p (.bin .add (.t 67) (.t 70))), sm 72 (.p (.bin .add (.t 71) (.c (.int .i64 4)))), mv 7 72])
 (.seq (.reg [mv 74 0, mv 75 0, sm 76 (.p (.nilchk (.t 75))), fa 77 0 76, fa 78 0 77, la 79 1 78, mv 80 7, mv 81 2, sm 82 (.p (.len true (.t 81))), sm 83 (.p (.convw .u32 (.t 82))), sm 84 (.v (.build [zi6, zi6, zu3] [(0, 1, (.t 80)), (1, 1, (.c (.int .i64 4))), (2, 1, (.t 83))])), sm 85 (.call 120 [(.t 79), (.t 84)]), mv 73 85, sm 86 (.p (.extract 0 (.t 73))), sm 87 (.p (.extract 1 (.t 73))), sm 88 (.p (.nilchk (.t 74))), fa 89 0 88, fa 90 0 89, st 1 90 86])
 (.reg [mv 91 0, sm 92 (.p (.nilchk (.t 91))), fa 93 0 92, fa 94 4 93, ⟨none, .h (.store 1 (.t 94) (.c (.bool true))), none⟩]))))))))
def rs100 : List AR := []
theorem ok100 : okF Tryz.prog 100 95 ac100 rs100 = true := by kernel_rfl
end Go.Proofs

set_option maxRecDepth 100000
namespace Go.Proofs
open Go Go.Eng
def ac101 : AC := (.seq (.reg [sm 2 (.h (.box (.t 0))), ⟨some 4, .p (.mov (.c (.str ⟨#[]⟩))), none⟩])
 (.seq (.reg [sm 5 (.h (.alloc [.nilp, .nils]))])
 (.seq (.seq (.reg [mv 10 1, sm 11 (.p (.len false (.t 10))), sm 12 (.p (.mov (.c zi6)))])
 (.block 0 (.loop (.seq (.reg [sm 13 (.p (.bin .lss (.t 12) (.t 11)))])
 (.seq (.cond (.t 13) .skip (.exit 0))
 (.seq (.block 1 (.seq (.reg [sm 14 (.p (.idxA 4 none (.t 10) (.t 12))), la 15 4 14, sm 7 (.h (.alloc [zi6, zi6, zi6, (.bool false)])), st 4 7 15])
 (.seq (.reg [fa 16 3 7, ld 17 16, sm 18 (.p (.un .not (.t 17)))])
 (.cond (.t 18) (.seq (.reg [la 20 1 2, fa 21 1 7, ld 22 21, fa 23 2 7, ld 24 23, sm 25 (.call 121 [(.t 20), (.t 22), (.t 24)]), mv 19 25, sm 26 (.p (.extract 0 (.t 19))), sm 27 (.p (.extract 1 (.t 19))), mv 8 26, mv 9 27])
 (.reg [mv 28 8, sm 29 (.call 122 [(.t 5), (.t 28)])])) .skip))))
 (.reg [sm 30 (.p (.bin .add (.t 12) (.c (.int .i64 1)))), mv 12 30])))))))
 (.seq (.reg [sm 31 (.call 123 [(.t 5)]), mv 4 31])
 .ret))))
def rs101 : List AR := [.tmp 4]
theorem ok101 : okF Tryz.prog 101 32 ac101 rs101 = true := by kernel_rfl
def ac102 : AC := (.seq (.reg [sm 3 (.h (.box (.t 0))), sm 6 (.h (.alloc [.nils])), sm 7 (.p (.mov (.c zi6)))])
 (.seq (.reg [sm 8 (.p (.mov (.c zi6)))])
 (.seq (.seq (.reg [mv 12 1, sm 13 (.p (.len false (.t 12))), sm 14 (.p (.mov (.c zi6)))])
 (.block 0 (.loop (.seq (.reg [sm 15 (.p (.bin .lss (.t 14) (.t 13)))])
 (.seq (.cond (.t 15) .skip (.exit 0))
 (.seq (.block 1 (.seq (.reg [sm 16 (.p (.idxA 4 none (.t 12) (.t 14))), la 17 4 16, sm 10 (.h (.alloc [zi6, zi6, zi6, (.bool false)])), st 4 10 17])
 (.seq (.reg [fa 18 2 10, ld 19 18, mv 20 2, sm 21 (.p (.len true (.t 20))), mv 22 8, sm 23 (.p (.bin .sub (.t 21) (.t 22))), sm 24 (.p (.mm false (.t 19) (.t 23))), mv 11 24])
 (.seq (.reg [fa 25 3 10, ld 26 25])
 (.cond (.t 26) (.seq (.draw 14 [(9, 13), (0, 13), (2, 13)] [la 28 1 3, fa 29 1 10, ld 30 29, mv 31 2, mv 32 8, mv 33 8, mv 34 11, sm 35 (.p (.bin .add (.t 33) (.t 34))), sm 36 (.v (.ssub (.t 31) (some (.t 32)) (some (.t 35)))), sm 37 (.call 51 [(.t 28), (.t 30), (.t 36)]), mv 27 37, sm 38 (.p (.extract 0 (.t 27))), sm 39 (.p (.extract 1 (.t 27))), st 1 3 38])
 (.reg [mv 40 8, mv 41 11, sm 42 (.p (.bin .add (.t 40) (.t 41))), mv 8 42])) .skip)))))
 (.reg [sm 43 (.p (.bin .add (.t 14) (.c (.int .i64 1)))), mv 14 43])))))))
 (.seq (.reg [la 44 1 3, mv 45 8, st 1 6 44, mv 7 45])
 .ret))))
def rs102 : List AR := [.cell 6 true 1, .tmp 7]
theorem ok102 : okF Tryz.prog 102 46 ac102 rs102 = true := by kernel_rfl
def ac103 : AC := (.seq (.reg [sm 2 (.p (.mov (.c zi6)))])
 (.seq (.reg [sm 3 (.p (.mov (.c zi6)))])
 (.seq (.seq (.reg [mv 6 0, sm 7 (.p (.len false (.t 6))), sm 8 (.p (.mov (.c zi6)))])
 (.block 0 (.loop (.seq (.reg [sm 9 (.p (.bin .lss (.t 8) (.t 7)))])
 (.seq (.cond (.t 9) .skip (.exit 0))
 (.seq (.block 1 (.seq (.reg [sm 10 (.p (.idxA 4 none (.t 6) (.t 8))), la 11 4 10, sm 5 (.h (.alloc [zi6, zi6, zi6, (.bool false)])), st 4 5 11])
 (.seq (.reg [fa 12 3 5, ld 13 12])
 (.cond (.t 13) (.reg [mv 14 3, fa 15 2 5, ld 16 15, sm 17 (.p (.bin .add (.t 14) (.t 16))), mv 3 17]) .skip))))
 (.reg [sm 18 (.p (.bin .add (.t 8) (.c (.int .i64 1)))), mv 8 18])))))))
 (.seq (.reg [mv 19 3, mv 2 19])
 .ret))))
def rs103 : List AR := [.tmp 2]
theorem ok103 : okF Tryz.prog 103 20 ac103 rs103 = true := by kernel_rfl
def ac104 : AC := (.seq (.reg [sm 3 (.h (.box (.t 0))), sm 4 (.h (.box (.t 1))), sm 6 (.h (.alloc [.nils]))])
 (.seq (.seq (.reg [mv 9 2, sm 10 (.p (.len false (.t 9))), sm 11 (.p (.mov (.c zi6)))])
 (.block 0 (.loop (.seq (.reg [sm 12 (.p (.bin .lss (.t 11) (.t 10)))])
 (.seq (.cond (.t 12) .skip (.exit 0))
 (.seq (.block 1 (.seq (.reg [sm 13 (.p (.idxA 4 none (.t 9) (.t 11))), la 14 4 13, sm 8 (.h (.alloc [zi6, zi6, zi6, (.bool false)])), st 4 8 14])
 (.reg [la 15 1 3, la 16 2 4, fa 17 0 8, ld 18 17, sm 19 (.d (.bslice 1 1 [zi6] [(0, (.t 18))])), sm 20 (.call 124 [(.t 15), (.t 16), (.c (.int .i64 3)), (.t 19)]), st 1 3 20])))
 (.reg [sm 21 (.p (.bin .add (.t 11) (.c (.int .i64 1)))), mv 11 21])))))))
 (.seq (.reg [la 22 1 3, st 1 6 22])
 .ret)))
def rs104 : List AR := [.cell 6 true 1]
theorem ok104 : okF Tryz.prog 104 23 ac104 rs104 = true := by kernel_rfl
def ac105 : AC := (.seq (.reg [sm 3 (.h (.box (.t 0))), sm 4 (.h (.box (.t 1))), sm 6 (.h (.alloc [(.bool false), zu3, zu3, zu3, zu3, zu3, zu3, zu3, zu3, zu3, zu3, zu3, zu3, zu3, zu3, zu3, zu3, zu3, zu3, zu3, zu3, zu3, zu3, zu3, zu3, zu3, zu3, (.bool false), (.bool false), (.bool false), zi6, zu3, zu3, zu3, zu3, zu3, zu3, zu3, zu3, zu3, zu3, zu3, zu3, zu3, zu3, zu3, zu3, zu3, zu3, zu3, zu3, zu3, zu3, zu3, zu3, zu3, zu3, (.bool false), (.bool false), (.bool false), zi6, zu3, .nils, .nils, (.bool false), (.bool false), zi6, zu3, zi6, zu3, zi6]))])
 (.seq (.seq (.reg [la 8 30 3, mv 9 2, sm 10 (.call 125 [(.t 8), (.t 9)]), sm 11 (.p (.un .not (.t 10)))])
 (.cond (.t 11) (.seq (.reg [la 12 30 3, sm 13 (.v (.build [(.bool false), zu3, zu3, zu3, zu3, zu3, zu3, zu3, zu3, zu3, zu3, zu3, zu3, zu3, zu3, zu3, zu3, zu3, zu3, zu3, zu3, zu3, zu3, zu3, zu3, zu3, zu3, (.bool false), (.bool false), (.bool false), zi6, zu3, zu3, zu3, zu3, zu3, zu3, zu3, zu3, zu3, zu3, zu3, zu3, zu3, zu3, zu3, zu3, zu3, zu3, zu3, zu3, zu3, zu3, zu3, zu3, zu3, zu3, (.bool false), (.bool false), (.bool false), zi6, zu3, .nils, .nils, (.bool false), (.bool false), zi6, zu3, zi6, zu3, zi6] [(1, 30, (.t 12))])), st 71 6 13])
 .ret) .skip))
 (.seq (.reg [la 14 30 3, la 15 1 4, mv 16 2, la 17 30 3, sm 18 (.v (.build [(.bool false), zu3, zu3, zu3, zu3, zu3, zu3, zu3, zu3, zu3, zu3, zu3, zu3, zu3, zu3, zu3, zu3, zu3, zu3, zu3, zu3, zu3, zu3, zu3, zu3, zu3, zu3, (.bool false), (.bool false), (.bool false), zi6, zu3, zu3, zu3, zu3, zu3, zu3, zu3, zu3, zu3, zu3, zu3, zu3, zu3, zu3, zu3, zu3, zu3, zu3, zu3, zu3, zu3, zu3, zu3, zu3, zu3, zu3, (.bool false), (.bool false), (.bool false), zi6, zu3, .nils, .nils, (.bool false), (.bool false), zi6, zu3, zi6, zu3, zi6] [(0, 1, (.c (.bool true))), (31, 30, (.t 17))])), sm 19 (.v (.build [zu3, zu3, zu3, zu3, zu3, zu3, zu3, zu3, zu3, zu3, zu3, zu3, zu3, zu3, zu3, zu3, zu3, zu3, zu3, zu3, zu3, zu3, zu3, zu3, zu3, zu3, (.bool false), (.bool false), (.bool false), zi6, .nils, zu3, (.bool false), zu3, zu3, zu3, zu3, zu3, zu3, zu3, zu3, zu3, zu3, zu3, zu3, zu3, zu3, zu3, zu3, zu3, zu3, zu3, zu3, zu3, zu3, zu3, zu3, zu3, zu3, (.bool false), (.bool false), (.bool false), zi6, zu3, zu3, zu3, zu3, zu3, zu3, zu3, zu3, zu3, zu3, zu3, zu3, zu3, zu3, zu3, zu3, zu3, zu3, zu3, zu3, zu3, zu3, zu3, zu3, zu3, zu3, (.bool false), (.bool false), (.bool false), zi6, zu3, .nils, .nils, (.bool false), (.bool false), zi6, zu3, zi6, zu3, zi6, zi6, zi6, zi6, zi6, zi6] [(0, 30, (.t 14)), (30, 1, (.t 15)), (31, 1, (.t 16)), (32, 71, (.t 18))])), sm 20 (.h (.box (.t 19))), mv 7 20])
 (.seq (.reg [mv 21 7, sm 22 (.p (.nilchk (.t 21))), fa 23 0 22, fa 24 29 23, ld 25 24, sm 26 (.p (.bin .add (.t 25) (.c (.int .i64 1)))), sm 27 (.p (.nilchk (.t 21))), fa 28 0 27, fa 29 29 28, st 1 29 26])
 (.seq (.reg [mv 30 7, sm 31 (.p (.nilchk (.t 30))), fa 32 0 31, fa 33 27 32, ⟨none, .h (.store 1 (.t 33) (.c (.bool false))), none⟩])
 (.seq (.reg [mv 34 7, sm 35 (.call 126 [(.t 34)])])
 (.seq (.reg [mv 36 7, sm 37 (.p (.nilchk (.t 36))), fa 38 32 37, la 39 71 38, st 71 6 39])
 .ret)))))))
def rs105 : List AR := [.cell 6 true 71]
theorem ok105 : okF Tryz.prog 105 40 ac105 rs105 = true := by kernel_rfl
def ac106 : AC := (.seq (.reg [sm 2 (.h (.box (.t 0))), sm 4 (.p (.mov (.c zu3)))])
 (.seq (.reg [fa 5 0 2, la 6 14 5, mv 7 1, sm 8 (.call 127 [(.t 6), (.t 7)]), mv 4 8])
 .ret))
def rs106 : List AR := [.tmp 4]
theorem ok106 : okF Tryz.prog 106 9 ac106 rs106 = true := by kernel_rfl
def ac107 : AC := (.seq (.reg [sm 2 (.h (.box (.t 0))), sm 4 (.h (.alloc [.nils])), sm 5 (.p (.mov (.c (.bool false))))])
 (.seq (.reg [fa 10 0 2, ld 11 10, sm 12 (.call 70 [(.t 11)]), sm 13 (.v (.build [.nils] [(0, 1, (.t 12))])), sm 6 (.h (.alloc [.nils])), st 1 6 13])
 (.seq (.reg [la 14 1 6, sm 15 (.p (.mkme 128 [(.t 14)])), mv 7 15])
 (.seq (.seq (.reg [mv 16 1, sm 17 (.p (.len false (.t 16))), sm 18 (.p (.mov (.c zi6)))])
 (.block 0 (.loop (.seq (.reg [sm 19 (.p (.bin .lss (.t 18) (.t 17)))])
 (.seq (.cond (.t 19) .skip (.exit 0))
 (.seq (.block 1 (.seq (.reg [sm 20 (.p (.idxA 3 none (.t 16) (.t 18))), la 21 3 20, sm 9 (.h (.alloc [zi6, zi6, zu3])), st 3 9 21])
 (.seq (.reg [mv 22 7, la 23 3 9, sm 24 (.callv (.t 22) [(.t 23)]), sm 25 (.p (.un .not (.t 24)))])
 (.cond (.t 25) (.seq (.reg [la 26 1 2, st 1 4 26, sm 5 (.p (.mov (.c (.bool false))))])
 .ret) .skip))))
 (.reg [sm 27 (.p (.bin .add (.t 18) (.c (.int .i64 1)))), mv 18 27])))))))
 (.seq (.reg [fa 28 0 6, ld 29 28, sm 30 (.v (.build [.nils] [(0, 1, (.t 29))])), st 1 4 30, sm 5 (.p (.mov (.c (.bool true))))])
 .ret)))))
def rs107 : List AR := [.cell 4 true 1, .tmp 5]
theorem ok107 : okF Tryz.prog 107 31 ac107 rs107 = true := by kernel_rfl
def ac108 : AC := (.seq (.reg [sm 5 (.h (.box (.t 0))), sm 6 (.h (.box (.t 1))), sm 9 (.h (.box (.t 4))), sm 10 (.h (.alloc [zi6, zu3, zu3, zu3, zu3, zu3, zu3, zu3, zu3, zi6, zi6, zi6, zi6, zi6, zi6, (.bool false), (.bool false), (.bool false), (.bool false), zi6, zi6, zi6, zi6, zi6, zi6, zi6, zi6, (.str .empty), zi6, zu3, zu3, zi6, zi6, .nils, .nils, zu3, zu3, zu3, zu3, zi6, zi6, zi6, zi6])), sm 11 (.h (.alloc [.nils, zu3, .nils, zi6]))])
 (.seq (.reg [la 14 43 5, la 15 1 6, mv 16 2, mv 17 3, la 18 3 9, sm 19 (.v (.build [zi6, zu3, zu3, zu3, zu3, zu3, zu3, zu3, zu3, zi6, zi6, zi6, zi6, zi6, zi6, (.bool false), (.bool false), (.bool false), (.bool false), zi6, zi6, zi6, zi6, zi6, zi6, zi6, zi6, (.str .empty), zi6, zu3, zu3, zi6, zi6, .nils, .nils, zu3, zu3, zu3, zu3, zi6, zi6, zi6, zi6, .nils, zi6, zi6, (.bool false), zi6, zu3] [(0, 43, (.t 14)), (43, 1, (.t 15)), (44, 1, (.t 16)), (45, 1, (.t 17)), (46, 3, (.t 18))])), sm 12 (.h (.alloc [zi6, zu3, zu3, zu3, zu3, zu3, zu3, zu3, zu3, zi6, zi6, zi6, zi6, zi6, zi6, (.bool false), (.bool false), (.bool false), (.bool false), zi6, zi6, zi6, zi6, zi6, zi6, zi6, zi6, (.str .empty), zi6, zu3, zu3, zi6, zi6, .nils, .nils, zu3, zu3, zu3, zu3, zi6, zi6, zi6, zi6, .nils, zi6, zi6, (.bool false), zi6, zu3])), st 49 12 19])
 (.seq (.reg [la 20 49 12, sm 21 (.v (.build [zi6, zu3, zu3, zu3, zu3, zu3, zu3, zu3, zu3, zi6, zi6, zi6, zi6, zi6, zi6, (.bool false), (.bool false), (.bool false), (.bool false), zi6, zi6, zi6, zi6, zi6, zi6, zi6, zi6, (.str .empty), zi6, zu3, zu3, zi6, zi6, .nils, .nils, zu3, zu3, zu3, zu3, zi6, zi6, zi6, zi6, .nils, zi6, zi6, (.bool false), zi6, zu3] [(0, 49, (.t 20))])), sm 22 (.v (.mkI 295 (.t 21))), la 23 49 12, sm 24 (.v (.build [zi6, zu3, zu3, zu3, zu3, zu3, zu3, zu3, zu3, zi6, zi6, zi6, zi6, zi6, zi6, (.bool false), (.bool false), (.bool false), (.bool false), zi6, zi6, zi6, zi6, zi6, zi6, zi6, zi6, (.str .empty), zi6, zu3, zu3, zi6, zi6, .nils, .nils, zu3, zu3, zu3, zu3, zi6, zi6, zi6, zi6, .nils, zi6, zi6, (.bool false), zi6, zu3] [(0, 49, (.t 23))])), sm 25 (.v (.mkI 296 (.t 24))), la 26 49 12, sm 27 (.v (.build [zi6, zu3, zu3, zu3, zu3, zu3, zu3, zu3, zu3, zi6, zi6, zi6, zi6, zi6, zi6, (.bool false), (.bool false), (.bool false), (.bool false), zi6, zi6, zi6, zi6, zi6, zi6, zi6, zi6, (.str .empty), zi6, zu3, zu3, zi6, zi6, .nils, .nils, zu3, zu3, zu3, zu3, zi6, zi6, zi6, zi6, .nils, zi6, zi6, (.bool false), zi6, zu3] [(0, 49, (.t 26))])), sm 28 (.v (.mkI 297 (.t 27))), la 29 49 12, sm 30 (.v (.build [zi6, zu3, zu3, zu3, zu3, zu3, zu3, zu3, zu3, zi6, zi6, zi6, zi6, zi6, zi6, (.bool false), (.bool false), (.bool false), (.bool false), zi6, zi6, zi6, zi6, zi6, zi6, zi6, zi6, (.str .empty), zi6, zu3, zu3, zi6, zi6, .nils, .nils, zu3, zu3, zu3, zu3, zi6, zi6, zi6, zi6, .nils, zi6, zi6, (.bool false), zi6, zu3] [(0, 49, (.t 29))])), sm 31 (.v (.mkI 298 (.t 30))), la 32 49 12, sm 33 (.v (.build [zi6, zu3, zu3, zu3, zu3, zu3, zu3, zu3, zu3, zi6, zi6, zi6, zi6, zi6, zi6, (.bool false), (.bool false), (.bool false), (.bool false), zi6, zi6, zi6, zi6, zi6, zi6, zi6, zi6, (.str .empty), zi6, zu3, zu3, zi6, zi6, .nils, .nils, zu3, zu3, zu3, zu3, zi6, zi6, zi6, zi6, .nils, zi6, zi6, (.bool false), zi6, zu3] [(0, 49, (.t 32))])), sm 34 (.v (.mkI 299 (.t 33))), sm 35 (.v (.build [.nili, .nili, .nili, .nili, .nili] [(0, 1, (.t 22)), (1, 1, (.t 25)), (2, 1, (.t 28)), (3, 1, (.t 31)), (4, 1, (.t 34))])), sm 13 (.h (.alloc [.nili, .nili, .nili, .nili, .nili])), st 5 13 35])
 (.seq (.seq (.reg [fa 36 1 9, ld 37 36, sm 38 (.p (.bin .lss (.t 37) (.c zi6))), mv 39 38, ⟨some 40, .p (.fieldA 1 (.t 9)), (some (39, false))⟩, ⟨some 41, .h (.load false 1 (.t 40)), (some (39, false))⟩, ⟨some 42, .p (.bin .quo (.t 41) (.c (.int .i64 16))), (some (39, false))⟩, ⟨some 43, .p (.bin .geq (.t 42) (.c (.int .i64 5))), (some (39, false))⟩, sm 44 (.p (.pick (.t 39) (.c (.bool true)) (.t 43)))])
 (.cond (.t 44) (.seq (.reg [la 45 49 12, sm 46 (.call 129 [(.t 45), (.c (.int .i64 5))]), sm 47 (.p (.extract 0 (.t 46))), sm 48 (.p (.extract 1 (.t 46))), st 43 10 47, st 4 11 48])
 .ret) .skip))
 (.seq (.reg [fa 49 1 9, ld 50 49, sm 51 (.p (.bin .quo (.t 50) (.c (.int .i64 16)))), sm 52 (.p (.idxA 1 (some 5) (.t 13) (.t 51))), ld 53 52, sm 54 (.calli [(295, 217), (296, 225), (297, 229), (298, 236), (299, 245)] (.t 53) []), sm 55 (.p (.extract 0 (.t 54))), sm 56 (.p (.extract 1 (.t 54))), st 43 10 55, st 4 11 56])
 .ret)))))
def rs108 : List AR := [.cell 10 true 43, .cell 11 true 4]
theorem ok108 : okF Tryz.prog 108 57 ac108 rs108 = true := by kernel_rfl
def ac109 : AC := (.seq (.reg [sm 3 (.h (.box (.t 0))), sm 6 (.h (.alloc [(.bool false), zu3, zu3, zu3, zu3, zu3, zu3, zu3, zu3, zu3, zu3, zu3, zu3, zu3, zu3, zu3, zu3, zu3, zu3, zu3, zu3, zu3, zu3, zu3, zu3, zu3, zu3, (.bool false), (.bool false), (.bool false), zi6, zu3, zu3, zu3, zu3, zu3, zu3, zu3, zu3, zu3, zu3, zu3, zu3, zu3, zu3, zu3, zu3, zu3, zu3, zu3, zu3, zu3, zu3, zu3, zu3, zu3, zu3, (.bool false), (.bool false), (.bool false), zi6, zu3, .nils, .nils, (.bool false), (.bool false), zi6, zu3, zi6, zu3, zi6]))])
 (.seq (.seq (.reg [fa 10 64 3, ld 11 10, sm 12 (.p (.un .not (.t 11)))])
 (.cond (.t 12) (.seq (.reg [la 13 71 3, st 71 6 13])
 .ret) .skip))
 (.seq (.seq (.reg [fa 15 61 3, ld 16 15, sm 17 (.call 130 [(.t 16)]), mv 14 17, sm 18 (.p (.extract 0 (.t 14))), sm 19 (.p (.extract 1 (.t 14))), sm 7 (.h (.alloc [zi6, zi6, zi6, zi6, zi6])), st 5 7 18, mv 8 19])
 (.block 0 (.seq (.reg [mv 21 2, sm 22 (.p (.un .not (.t 21))), mv 20 22])
 (.cond (.t 20) (.seq (.reg [fa 23 61 3, ld 24 23, fa 25 31 3, fa 26 0 25, ld 27 26, sm 28 (.v (.build [zi6, zu3, zu3] [(0, 1, (.c (.int .i64 2))), (1, 1, (.t 24)), (2, 1, (.t 27))])), sm 9 (.h (.alloc [zi6, zu3, zu3])), st 3 9 28])
 (.draw 10 [(3, 7), (1, 7), (2, 7), (5, 9), (7, 9), (1, 9), (2, 9), (3, 9)] [fa 29 31 3, la 30 30 29, la 31 3 9, sm 32 (.call 131 [(.t 30), (.t 31)]), fa 33 0 9, ld 34 33, fa 35 1 3, st 30 35 32, fa 36 70 3, st 1 36 34])) (.seq (.reg [fa 38 65 3, fa 39 0 38, ld 40 39, mv 41 40, ⟨some 42, .p (.fieldA 1 (.t 7)), (some (41, true))⟩, ⟨some 43, .h (.load false 1 (.t 42)), (some (41, true))⟩, ⟨some 44, .p (.bin .neq (.t 43) (.c zi6)), (some (41, true))⟩, sm 45 (.p (.pick (.t 41) (.t 44) (.c (.bool false)))), mv 37 45])
 (.cond (.t 37) (.reg [fa 46 1 7, ld 47 46, mv 48 1, fa 49 1 3, fa 50 1 49, sm 51 (.p (.idxA 1 (some 16) (.t 50) (.t 47))), st 1 51 48]) .skip))))))
 (.seq (.reg [sm 52 (.v (.build [(.bool false), zi6, zu3] [])), fa 53 64 3, ⟨none, .h (.store 1 (.t 53) (.c (.bool false))), none⟩, fa 54 65 3, st 3 54 52])
 (.seq (.reg [la 55 71 3, st 71 6 55])
 .ret)))))
def rs109 : List AR := [.cell 6 true 71]
theorem ok109 : okF Tryz.prog 109 56 ac109 rs109 = true := by kernel_rfl
def ac110 : AC := (.seq (.draw 23 [(5, 22), (10, 22), (16, 22)] [mv 6 0, mv 7 0, sm 8 (.p (.nilchk (.t 7))), fa 9 0 8, fa 10 45 9, ld 11 10, mv 12 0, sm 13 (.p (.nilchk (.t 12))), fa 14 0 13, fa 15 45 14, ld 16 15, sm 17 (.p (.len false (.t 16))), mv 18 0, sm 19 (.p (.nilchk (.t 18))), fa 20 0 19, fa 21 45 20, ld 22 21, sm 23 (.p (.len false (.t 22))), sm 24 (.v (.sub 5 (.t 11) none (some (.t 17)) (some (.t 23)))), sm 25 (.p (.nilchk (.t 6))), fa 26 0 25, fa 27 45 26, st 1 27 24])
 (.seq (.reg [mv 28 1, sm 29 (.p (.len false (.t 28))), sm 30 (.p (.mov (.c zi6)))])
 (.block 0 (.loop (.seq (.reg [sm 31 (.p (.bin .lss (.t 30) (.t 29)))])
 (.seq (.cond (.t 31) .skip (.exit 0))
 (.seq (.block 1 (.seq (.reg [sm 32 (.p (.idxA 5 none (.t 28) (.t 30))), la 33 5 32, sm 5 (.h (.alloc [zi6, zi6, zi6, zi6, (.str .empty)])), st 5 5 33])
 (.seq (.reg [mv 34 0, sm 35 (.p (.nilchk (.t 34))), fa 36 0 35, fa 37 46 36, ld 38 37, fa 39 0 5, st 1 39 38])
 (.seq (.draw 13 [(6, 7), (5, 8), (7, 8), (6, 8), (8, 12), (5, 12), (6, 12), (7, 12)] [mv 40 0, mv 41 0, sm 42 (.p (.nilchk (.t 41))), fa 43 0 42, fa 44 45 43, ld 45 44, la 46 5 5, sm 47 (.d (.bslice 5 1 [zi6, zi6, zi6, zi6, (.str .empty)] [(0, (.t 46))])), sm 48 (.l (.append 5 48 (.t 45) (.t 47))), sm 49 (.p (.nilchk (.t 40))), fa 50 0 49, fa 51 45 50, st 1 51 48])
 (.reg [mv 52 0, sm 53 (.p (.nilchk (.t 52))), fa 54 0 53, fa 55 46 54, ld 56 55, sm 57 (.p (.bin .add (.t 56) (.c (.int .i64 1)))), sm 58 (.p (.nilchk (.t 52))), fa 59 0 58, fa 60 46 59, st 1 60 57])))))
 (.reg [sm 61 (.p (.bin .add (.t 30) (.c (.int .i64 1)))), mv 30 61]))))))))
def rs110 : List AR := []
theorem ok110 : okF Tryz.prog 110 62 ac110 rs110 = true := by kernel_rfl
def ac111 : AC := (.seq (.reg [sm 3 (.h (.box (.t 0))), sm 6 (.h (.alloc [zi6, zu3, zu3, zu3, zu3, zu3, zu3, zu3, zu3, zi6, zi6, zi6, zi6, zi6, zi6, (.bool false), (.bool false), (.bool false), (.bool false), zi6, zi6, zi6, zi6, zi6, zi6, zi6, zi6, (.str .empty), zi6, zu3, zu3, zi6, zi6, .nils, .nils, zu3, zu3, zu3, zu3, zi6, zi6, zi6, zi6]))])
 (.seq (.reg [fa 10 14 3, la 11 13 10, mv 12 1, mv 13 2, sm 14 (.call 132 [(.t 11), (.t 12), (.t 13)]), mv 9 14, sm 15 (.p (.extract 0 (.t 9))), sm 16 (.p (.extract 1 (.t 9))), sm 7 (.h (.alloc [zi6, (.bool false), (.bool false), (.bool false), (.bool false), zi6, zi6, zi6, zi6, zi6, zi6, zi6, zi6])), st 13 7 15, mv 8 16])
 (.seq (.reg [la 17 13 7, fa 18 14 3, st 13 18 17])
 (.seq (.seq (.reg [mv 19 8])
 (.cond (.t 19) (.reg [fa 20 0 3, la 21 14 20, mv 22 1, sm 23 (.call 98 [(.t 21), (.c zi6), (.t 22)]), fa 24 0 3, st 14 24 23]) .skip))
 (.seq (.reg [la 25 43 3, st 43 6 25])
 .ret)))))
def rs111 : List AR := [.cell 6 true 43]
theorem ok111 : okF Tryz.prog 111 26 ac111 rs111 = true := by kernel_rfl
def ac112 : AC := (.seq (.reg [sm 2 (.p (.mov (.c (.bool false))))])
 (.seq (.reg [mv 3 0, sm 4 (.p (.binw .eql (.t 3) (.c (.int .u32 1)))), mv 5 4, ⟨some 6, .p (.mov (.t 0)), (some (5, false))⟩, ⟨some 7, .p (.binw .eql (.t 6) (.c (.int .u32 2))), (some (5, false))⟩, sm 8 (.p (.pick (.t 5) (.c (.bool true)) (.t 7))), mv 9 8, ⟨some 10, .p (.mov (.t 0)), (some (9, false))⟩, ⟨some 11, .p (.binw .eql (.t 10) (.c (.int .u32 3))), (some (9, false))⟩, sm 12 (.p (.pick (.t 9) (.c (.bool true)) (.t 11))), mv 2 12])
 .ret))
def rs112 : List AR := [.tmp 2]
theorem ok112 : okF Tryz.prog 112 13 ac112 rs112 = true := by kernel_rfl
def ac113 : AC := (.seq (.seq (.draw 8 [] [ld 11 1, sm 12 (.p (.nilchk (.t 11))), fa 13 0 12, fa 14 0 13, la 15 1 14, la 16 2 2, sm 17 (.call 114 [(.t 15), (.t 16)]), mv 5 17])
 (.seq (.reg [mv 18 5, sm 19 (.p (.bin .neq (.t 18) (.c zi6)))])
 (.cond (.t 19) (.seq (.reg [ld 20 1, mv 21 5, sm 22 (.call 115 [(.t 20), (.t 21)])])
 .ret) .skip)))
 (.seq (.reg [fa 23 1 2, ld 24 23, sm 25 (.p (.mov (.c zu3)))])
 (.block 0 (.loop (.seq (.reg [sm 26 (.p (.binw .lss (.t 25) (.t 24)))])
 (.seq (.cond (.t 26) .skip (.exit 0))
 (.seq (.block 1 (.seq (.draw 15 [] [ld 28 1, sm 29 (.p (.nilchk (.t 28))), fa 30 0 29, fa 31 0 30, la 32 1 31, la 33 2 2, ld 34 3, sm 35 (.p (.nilchk (.t 34))), ld 36 35, sm 37 (.call 116 [(.t 32), (.t 33), (.t 36)]), mv 27 37, sm 38 (.p (.extract 0 (.t 27))), sm 39 (.p (.extract 1 (.t 27))), mv 6 38, mv 7 39])
 (.seq (.seq (.reg [mv 40 7, sm 41 (.p (.un .not (.t 40)))])
 (.cond (.t 41) .ret .skip))
 (.seq (.reg [ld 42 1, sm 43 (.p (.nilchk (.t 42))), fa 44 0 43, fa 45 3 44, ⟨none, .h (.store 1 (.t 45) (.c (.bool true))), none⟩])
 (.seq (.draw 9 [(0, 8), (4, 8)] [ld 46 3, mv 47 6, sm 48 (.p (.bin .add (.t 47) (.c (.int .i64 1)))), fa 49 1 2, ld 50 49, sm 51 (.p (.conv .i64 (.t 50))), sm 52 (.p (.bin .rem (.t 48) (.t 51))), sm 53 (.p (.nilchk (.t 46))), st 1 53 52])
 (.seq (.draw 16 [(12, 13), (7, 13), (0, 13), (4, 13), (5, 13)] [ld 55 1, sm 56 (.p (.nilchk (.t 55))), fa 57 0 56, fa 58 0 57, la 59 1 58, la 60 2 2, mv 61 6, sm 62 (.call 117 [(.t 59), (.t 60), (.t 61)]), mv 54 62, sm 63 (.p (.extract 0 (.t 54))), sm 64 (.p (.extract 1 (.t 54))), sm 65 (.p (.extract 2 (.t 54))), sm 8 (.h (.alloc [.nils])), st 1 8 63, mv 9 64, mv 10 65])
 (.seq (.reg [ld 66 1, la 67 1 8, sm 68 (.p (.nilchk (.t 66))), fa 69 0 68, fa 70 0 69, st 1 70 67])
 (.seq (.seq (.reg [mv 71 10, sm 72 (.p (.bin .neq (.t 71) (.c zi6)))])
 (.cond (.t 72) (.reg [ld 73 1, mv 74 10, sm 75 (.call 115 [(.t 73), (.t 74)])]) .skip))
 (.seq (.reg [mv 76 0, mv 77 6, mv 78 9, mv 79 10, sm 80 (.v (.build [zi6, .nils, zi6] [(0, 1, (.t 77)), (1, 1, (.t 78)), (2, 1, (.t 79))])), sm 81 (.callv (.t 76) [(.t 80)]), sm 82 (.p (.un .not (.t 81)))])
 (.cond (.t 82) .ret .skip))))))))))
 (.reg [sm 83 (.p (.binw .add (.t 25) (.c (.int .u32 1)))), mv 25 83]))))))))
def rs113 : List AR := []
theorem ok113 : okF Tryz.prog 113 84 ac113 rs113 = true := by kernel_rfl
def ac114 : AC := (.seq (.reg [sm 2 (.h (.box (.t 0))), sm 3 (.h (.box (.t 1))), sm 4 (.p (.mov (.c zi6)))])
 (.seq (.seq (.reg [fa 5 1 3, ld 6 5])
 (.block 0 (.seq (.seq (.reg [sm 8 (.p (.binw .eql (.t 6) (.c (.int .u32 1)))), mv 7 8])
 (.cond (.t 7) .skip (.seq (.reg [sm 9 (.p (.binw .eql (.t 6) (.c (.int .u32 2)))), mv 7 9])
 (.cond (.t 7) .skip (.seq (.reg [sm 10 (.p (.binw .eql (.t 6) (.c (.int .u32 4)))), mv 7 10])
 (.cond (.t 7) .skip (.reg [sm 11 (.p (.binw .eql (.t 6) (.c (.int .u32 8)))), mv 7 11])))))))
 (.cond (.t 7) (.seq (.draw 17 [] [fa 12 0 3, ld 13 12, sm 14 (.p (.binw .rem (.t 13) (.c (.int .u32 16)))), sm 15 (.p (.binw .eql (.t 14) (.c zu3))), mv 16 15, ⟨some 17, .p (.fieldA 0 (.t 3)), (some (16, true))⟩, ⟨some 18, .h (.load false 1 (.t 17)), (some (16, true))⟩, ⟨some 19, .p (.conv .i64 (.t 18)), (some (16, true))⟩, ⟨some 20, .p (.fieldA 1 (.t 3)), (some (16, true))⟩, ⟨some 21, .h (.load false 1 (.t 20)), (some (16, true))⟩, ⟨some 22, .p (.conv .i64 (.t 21)), (some (16, true))⟩, ⟨some 23, .p (.bin .mul (.c (.int .i64 16)) (.t 22)), (some (16, true))⟩, ⟨some 24, .p (.bin .add (.t 19) (.t 23)), (some (16, true))⟩, ⟨some 25, .h (.load true 1 (.t 2)), (some (16, true))⟩, ⟨some 26, .call 69 [(.t 25)], (some (16, true))⟩, ⟨some 27, .p (.bin .leq (.t 24) (.t 26)), (some (16, true))⟩, sm 28 (.p (.pick (.t 16) (.t 27) (.c (.bool false))))])
 (.cond (.t 28) (.seq (.reg [sm 4 (.p (.mov (.c zi6)))])
 .ret) .skip)) .skip))))
 (.seq (.reg [sm 4 (.p (.mov (.c (.int .i64 160))))])
 .ret)))
def rs114 : List AR := [.tmp 4]
theorem ok114 : okF Tryz.prog 114 29 ac114 rs114 = true := by kernel_rfl
def ac115 : AC := (.reg [mv 4 0, mv 5 1, sm 6 (.p (.nilchk (.t 4))), fa 7 5 6, fa 8 6 7, st 1 8 5])
def rs115 : List AR := []
theorem ok115 : okF Tryz.prog 115 9 ac115 rs115 = true := by kernel_rfl
def ac116 : AC := (.seq (.reg [sm 3 (.h (.box (.t 0))), sm 4 (.h (.box (.t 1))), sm 6 (.p (.mov (.c zi6))), sm 7 (.p (.mov (.c (.bool false))))])
 (.seq (.seq (.reg [fa 10 1 4, ld 11 10, sm 12 (.p (.conv .i64 (.t 11))), sm 13 (.p (.mov (.c zi6)))])
 (.block 0 (.loop (.seq (.reg [sm 14 (.p (.bin .lss (.t 13) (.t 12)))])
 (.seq (.cond (.t 14) .skip (.exit 0))
 (.seq (.block 1 (.seq (.reg [mv 15 13, mv 8 15])
 (.seq (.reg [mv 16 2, mv 17 8, sm 18 (.p (.bin .add (.t 16) (.t 17))), fa 19 1 4, ld 20 19, sm 21 (.p (.conv .i64 (.t 20))), sm 22 (.p (.bin .rem (.t 18) (.t 21))), mv 9 22])
 (.seq (.reg [la 23 1 3, la 24 2 4, mv 25 9, sm 26 (.call 133 [(.t 23), (.t 24), (.t 25)]), sm 27 (.v (.field false 5 1 (.t 26))), sm 28 (.p (.binw .eql (.t 27) (.c (.int .u32 1))))])
 (.cond (.t 28) (.seq (.reg [mv 29 9, mv 6 29, sm 7 (.p (.mov (.c (.bool true))))])
 .ret) .skip)))))
 (.reg [sm 30 (.p (.bin .add (.t 13) (.c (.int .i64 1)))), mv 13 30])))))))
 (.seq (.reg [sm 6 (.p (.mov (.c zi6))), sm 7 (.p (.mov (.c (.bool false))))])
 .ret)))
def rs116 : List AR := [.tmp 6, .tmp 7]
theorem ok116 : okF Tryz.prog 116 31 ac116 rs116 = true := by kernel_rfl
def ac117 : AC := (.seq (.reg [sm 3 (.h (.box (.t 0))), sm 4 (.h (.box (.t 1))), sm 6 (.h (.alloc [.nils])), sm 7 (.p (.mov (.c .nils))), sm 8 (.p (.mov (.c zi6)))])
 (.scope (.seq (.reg [sm 9 (.p (.mov (.c .nils)))])
 (.seq (.reg [sm 17 (.l (.makec 1 8 [zi6] (.c zi6) (.c (.int .i64 4)))), mv 10 17])
 (.seq (.reg [mv 18 2, sm 11 (.p (.mov (.c (.bool false)))), mv 12 18, sm 13 (.p (.mov (.c zi6)))])
 (.seq .skip
 (.seq (.block 0 (.loop (.block 1 (.seq (.reg [la 19 1 3, la 20 2 4, mv 21 12, sm 22 (.call 133 [(.t 19), (.t 20), (.t 21)]), sm 14 (.h (.alloc [zi6, zi6, zi6, (.bool false), zu3, zu3])), st 6 14 22])
 (.seq (.seq (.reg [mv 23 10, sm 24 (.p (.len false (.t 23))), sm 25 (.p (.mov (.c zi6)))])
 (.block 2 (.loop (.seq (.reg [sm 26 (.p (.bin .lss (.t 25) (.t 24)))])
 (.seq (.cond (.t 26) .skip (.exit 2))
 (.seq (.block 3 (.seq (.reg [sm 27 (.p (.idxA 1 none (.t 23) (.t 25))), ld 28 27, mv 16 28])
 (.seq (.reg [mv 29 16, mv 30 12, sm 31 (.p (.bin .eql (.t 29) (.t 30)))])
 (.cond (.t 31) (.seq (.reg [sm 13 (.p (.mov (.c (.int .i64 163))))])
 (.exit 0)) .skip))))
 (.reg [sm 32 (.p (.bin .add (.t 25) (.c (.int .i64 1)))), mv 25 32])))))))
 (.seq (.block 4 (.seq (.reg [mv 34 10, sm 35 (.p (.len false (.t 34))), sm 36 (.p (.bin .eql (.t 35) (.c (.int .i64 4)))), mv 33 36])
 (.cond (.t 33) (.reg [sm 13 (.p (.mov (.c (.int .i64 163))))]) (.seq (.reg [fa 38 5 14, ld 39 38, sm 40 (.p (.binw .neq (.t 39) (.c (.int .u32 1)))), mv 37 40])
 (.cond (.t 37) (.reg [sm 13 (.p (.mov (.c (.int .i64 165))))]) (.seq (.draw 23 [] [fa 42 0 14, fa 43 2 42, ld 44 43, sm 45 (.p (.bin .lss (.t 44) (.c (.int .i64 1)))), mv 46 45, ⟨some 47, .p (.fieldA 0 (.t 14)), (some (46, false))⟩, ⟨some 48, .p (.fieldA 2 (.t 47)), (some (46, false))⟩, ⟨some 49, .h (.load false 1 (.t 48)), (some (46, false))⟩, ⟨some 50, .p (.bin .gtr (.t 49) (.c (.int .i64 512))), (some (46, false))⟩, sm 51 (.p (.pick (.t 46) (.c (.bool true)) (.t 50))), mv 52 51, ⟨some 53, .p (.fieldA 0 (.t 14)), (some (52, false))⟩, ⟨some 54, .p (.fieldA 1 (.t 53)), (some (52, false))⟩, ⟨some 55, .h (.load false 1 (.t 54)), (some (52, false))⟩, ⟨some 56, .p (.fieldA 0 (.t 14)), (some (52, false))⟩, ⟨some 57, .p (.fieldA 2 (.t 56)), (some (52, false))⟩, ⟨some 58, .h (.load false 1 (.t 57)), (some (52, false))⟩, ⟨some 59, .p (.bin .add (.t 55) (.t 58)), (some (52, false))⟩, ⟨some 60, .h (.load true 1 (.t 3)), (some (52, false))⟩, ⟨some 61, .call 69 [(.t 60)], (some (52, false))⟩, ⟨some 62, .p (.bin .gtr (.t 59) (.t 61)), (some (52, false))⟩, sm 63 (.p (.pick (.t 52) (.c (.bool true)) (.t 62))), mv 41 63])
 (.cond (.t 41) (.reg [sm 13 (.p (.mov (.c (.int .i64 161))))]) (.seq (.reg [la 65 6 14, sm 66 (.call 134 [(.t 65)]), sm 67 (.p (.un .not (.t 66))), mv 68 67, ⟨some 69, .p (.mov (.t 11)), (some (68, false))⟩, ⟨some 70, .p (.mov (.t 69)), (some (68, false))⟩, ⟨some 71, .p (.fieldA 0 (.t 14)), (some (70, true))⟩, ⟨some 72, .p (.fieldA 3 (.t 71)), (some (70, true))⟩, ⟨some 73, .h (.load false 1 (.t 72)), (some (70, true))⟩, ⟨some 74, .p (.un .not (.t 73)), (some (70, true))⟩, ⟨some 75, .p (.pick (.t 70) (.t 74) (.c (.bool false))), (some (68, false))⟩, sm 76 (.p (.pick (.t 68) (.c (.bool true)) (.t 75))), mv 64 76])
 (.cond (.t 64) (.reg [sm 13 (.p (.mov (.c (.int .i64 164))))]) (.seq (.draw 11 [] [la 78 6 14, sm 79 (.call 135 [(.t 78)]), mv 80 79, ⟨some 81, .h (.load true 6 (.t 14)), (some (80, true))⟩, ⟨some 82, .call 136 [(.t 81)], (some (80, true))⟩, ⟨some 83, .p (.fieldA 1 (.t 4)), (some (80, true))⟩, ⟨some 84, .h (.load false 1 (.t 83)), (some (80, true))⟩, ⟨some 85, .p (.conv .i64 (.t 84)), (some (80, true))⟩, ⟨some 86, .p (.bin .geq (.t 82) (.t 85)), (some (80, true))⟩, sm 87 (.p (.pick (.t 80) (.t 86) (.c (.bool false)))), mv 77 87])
 (.cond (.t 77) (.reg [sm 13 (.p (.mov (.c (.int .i64 162))))]) .skip)))))))))))
 (.seq (.seq (.reg [mv 88 13, sm 89 (.p (.bin .neq (.t 88) (.c zi6)))])
 (.cond (.t 89) (.exit 0) .skip))
 (.seq (.draw 18 [(2, 3), (6, 7), (7, 8), (3, 8), (2, 8), (6, 8), (8, 13), (7, 13), (3, 13), (2, 13)] [mv 90 10, mv 91 12, sm 92 (.d (.bslice 1 1 [zi6] [(0, (.t 91))])), sm 93 (.l (.append 1 8 (.t 90) (.t 92))), mv 94 9, fa 95 0 14, la 96 4 95, sm 97 (.d (.bslice 4 1 [zi6, zi6, zi6, (.bool false)] [(0, (.t 96))])), sm 98 (.l (.append 4 32 (.t 94) (.t 97))), mv 99 11, mv 100 99, ⟨some 101, .p (.fieldA 0 (.t 14)), (some (100, false))⟩, ⟨some 102, .p (.fieldA 3 (.t 101)), (some (100, false))⟩, ⟨some 103, .h (.load false 1 (.t 102)), (some (100, false))⟩, sm 104 (.p (.pick (.t 100) (.c (.bool true)) (.t 103))), mv 10 93, mv 9 98, mv 11 104])
 (.seq (.seq (.reg [la 105 6 14, sm 106 (.call 135 [(.t 105)]), sm 107 (.p (.un .not (.t 106)))])
 (.cond (.t 107) (.seq (.reg [la 108 1 3, la 109 2 4, mv 110 10, sm 111 (.call 124 [(.t 108), (.t 109), (.c (.int .i64 2)), (.t 110)]), mv 112 9, st 1 6 111, mv 7 112, sm 8 (.p (.mov (.c zi6)))])
 .ret) .skip))
 (.reg [la 113 6 14, sm 114 (.call 136 [(.t 113)]), mv 12 114]))))))))))
 (.seq (.seq (.reg [la 115 1 3, la 116 2 4, mv 117 2, sm 118 (.call 133 [(.t 115), (.t 116), (.t 117)]), sm 119 (.v (.field false 5 1 (.t 118))), sm 120 (.p (.binw .eql (.t 119) (.c (.int .u32 1))))])
 (.cond (.t 120) (.reg [la 121 1 3, la 122 2 4, mv 123 2, mv 124 13, sm 125 (.call 137 [(.t 121), (.t 122), (.t 123), (.t 124)]), st 1 3 125]) .skip))
 (.seq (.reg [la 126 1 3, mv 127 13, st 1 6 126, sm 7 (.p (.mov (.c .nils))), mv 8 127])
 .ret)))))))))
def rs117 : List AR := [.cell 6 true 1, .tmp 7, .tmp 8]
theorem ok117 : okF Tryz.prog 117 128 ac117 rs117 = true := by kernel_rfl
def ac118 : AC := (.seq (.reg [sm 8 (.p (.mov (.c zi6)))])
 (.seq (.reg [sm 9 (.p (.mov (.c zi6)))])
 (.seq (.seq (.reg [mv 12 0, sm 13 (.p (.len false (.t 12))), sm 14 (.p (.mov (.c zi6)))])
 (.block 0 (.loop (.seq (.reg [sm 15 (.p (.bin .lss (.t 14) (.t 13)))])
 (.seq (.cond (.t 15) .skip (.exit 0))
 (.seq (.block 1 (.seq (.reg [sm 16 (.p (.idxA 4 none (.t 12) (.t 14))), la 17 4 16, sm 11 (.h (.alloc [zi6, zi6, zi6, (.bool false)])), st 4 11 17])
 (.seq (.seq (.reg [fa 18 3 11, ld 19 18, mv 20 1, sm 21 (.p (.beq true (.t 19) (.t 20)))])
 (.cond (.t 21) (.seq (.reg [sm 8 (.p (.mov (.c (.int .i64 164))))])
 .ret) .skip))
 (.reg [mv 22 9, fa 23 2 11, ld 24 23, sm 25 (.p (.bin .add (.t 22) (.t 24))), mv 9 25]))))
 (.reg [sm 26 (.p (.bin .add (.t 14) (.c (.int .i64 1)))), mv 14 26])))))))
 (.seq (.seq (.reg [mv 27 9, mv 28 2, sm 29 (.p (.bin .lss (.t 27) (.t 28))), mv 30 29, ⟨some 31, .p (.mov (.t 9)), (some (30, false))⟩, ⟨some 32, .p (.mov (.t 3)), (some (30, false))⟩, ⟨some 33, .p (.bin .gtr (.t 31) (.t 32)), (some (30, false))⟩, sm 34 (.p (.pick (.t 30) (.c (.bool true)) (.t 33)))])
 (.cond (.t 34) (.seq (.reg [sm 8 (.p (.mov (.c (.int .i64 161))))])
 .ret) .skip))
 (.seq (.reg [sm 8 (.p (.mov (.c zi6)))])
 .ret)))))
def rs118 : List AR := [.tmp 8]
theorem ok118 : okF Tryz.prog 118 35 ac118 rs118 = true := by kernel_rfl
def ac119 : AC := (.seq (.reg [sm 5 (.h (.box (.t 1)))])
 (.seq (.draw 14 [(9, 13), (5, 13), (6, 13)] [mv 8 0, mv 9 0, sm 10 (.p (.nilchk (.t 9))), fa 11 0 10, fa 12 0 11, la 13 1 12, la 14 2 5, mv 15 2, mv 16 3, sm 17 (.call 137 [(.t 13), (.t 14), (.t 15), (.t 16)]), sm 18 (.p (.nilchk (.t 8))), fa 19 0 18, fa 20 0 19, st 1 20 17])
 (.reg [mv 21 0, mv 22 3, sm 23 (.call 115 [(.t 21), (.t 22)])])))
def rs119 : List AR := []
theorem ok119 : okF Tryz.prog 119 24 ac119 rs119 = true := by kernel_rfl
def ac120 : AC := (.seq (.reg [sm 2 (.h (.box (.t 0))), sm 3 (.h (.box (.t 1))), sm 4 (.h (.alloc [.nils])), sm 5 (.p (.mov (.c (.bool false))))])
 (.seq (.reg [la 6 1 2, la 7 3 3, sm 8 (.d (.bslice 3 1 [zi6, zi6, zu3] [(0, (.t 7))])), sm 9 (.call 107 [(.t 6), (.t 8)]), sm 10 (.p (.extract 0 (.t 9))), sm 11 (.p (.extract 1 (.t 9))), st 1 4 10, mv 5 11])
 .ret))
def rs120 : List AR := [.cell 4 true 1, .tmp 5]
theorem ok120 : okF Tryz.prog 120 12 ac120 rs120 = true := by kernel_rfl
def ac121 : AC := (.seq (.reg [sm 3 (.h (.box (.t 0))), ⟨some 6, .p (.mov (.c (.str ⟨#[]⟩))), none⟩, sm 7 (.p (.mov (.c (.bool false))))])
 (.seq (.seq (.reg [mv 12 1, sm 13 (.p (.bin .lss (.t 12) (.c zi6))), mv 14 13, ⟨some 15, .p (.mov (.t 2)), (some (14, false))⟩, ⟨some 16, .p (.bin .lss (.t 15) (.c zi6)), (some (14, false))⟩, sm 17 (.p (.pick (.t 14) (.c (.bool true)) (.t 16))), mv 18 17, ⟨some 19, .p (.mov (.t 1)), (some (18, false))⟩, ⟨some 20, .h (.load true 1 (.t 3)), (some (18, false))⟩, ⟨some 21, .call 69 [(.t 20)], (some (18, false))⟩, ⟨some 22, .p (.bin .gtr (.t 19) (.t 21)), (some (18, false))⟩, sm 23 (.p (.pick (.t 18) (.c (.bool true)) (.t 22))), mv 24 23, ⟨some 25, .p (.mov (.t 2)), (some (24, false))⟩, ⟨some 26, .h (.load true 1 (.t 3)), (some (24, false))⟩, ⟨some 27, .call 69 [(.t 26)], (some (24, false))⟩, ⟨some 28, .p (.mov (.t 1)), (some (24, false))⟩, ⟨some 29, .p (.bin .sub (.t 27) (.t 28)), (some (24, false))⟩, ⟨some 30, .p (.bin .gtr (.t 25) (.t 29)), (some (24, false))⟩, sm 31 (.p (.pick (.t 24) (.c (.bool true)) (.t 30)))])
 (.cond (.t 31) (.seq (.reg [⟨some 6, .p (.mov (.c (.str ⟨#[]⟩))), none⟩, sm 7 (.p (.mov (.c (.bool false))))])
 .ret) .skip))
 (.seq (.reg [mv 32 2, sm 33 (.l (.makec 1 1 [zu8] (.c zi6) (.t 32))), mv 8 33])
 (.seq (.block 0 (.loop (.seq (.seq (.reg [mv 34 8, sm 35 (.p (.len false (.t 34))), mv 36 2, sm 37 (.p (.bin .lss (.t 35) (.t 36)))])
 (.cond (.t 37) .skip (.exit 0)))
 (.block 1 (.seq (.reg [mv 38 1, mv 39 8, sm 40 (.p (.len false (.t 39))), sm 41 (.p (.bin .add (.t 38) (.t 40))), mv 9 41])
 (.seq (.reg [fa 42 0 3, ld 43 42, mv 44 9, sm 45 (.p (.bin .quo (.t 44) (.c (.int .i64 128)))), sm 46 (.p (.idxA 128 none (.t 43) (.t 45))), la 47 128 46, sm 10 (.h (.alloc [zu8, zu8, zu8, zu8, zu8, zu8, zu8, zu8, zu8, zu8, zu8, zu8, zu8, zu8, zu8, zu8, zu8, zu8, zu8, zu8, zu8, zu8, zu8, zu8, zu8, zu8, zu8, zu8, zu8, zu8, zu8, zu8, zu8, zu8, zu8, zu8, zu8, zu8, zu8, zu8, zu8, zu8, zu8, zu8, zu8, zu8, zu8, zu8, zu8, zu8, zu8, zu8, zu8, zu8, zu8, zu8, zu8, zu8, zu8, zu8, zu8, zu8, zu8, zu8, zu8, zu8, zu8, zu8, zu8, zu8, zu8, zu8, zu8, zu8, zu8, zu8, zu8, zu8, zu8, zu8, zu8, zu8, zu8, zu8, zu8, zu8, zu8, zu8, zu8, zu8, zu8, zu8, zu8, zu8, zu8, zu8, zu8, zu8, zu8, zu8, zu8, zu8, zu8, zu8, zu8, zu8, zu8, zu8, zu8, zu8, zu8, zu8, zu8, zu8, zu8, zu8, zu8, zu8, zu8, zu8, zu8, zu8, zu8, zu8, zu8, zu8, zu8, zu8])), st 128 10 47])
 (.seq (.reg [mv 48 9, sm 49 (.p (.bin .rem (.t 48) (.c (.int .i64 128)))), sm 50 (.d (.asub 1 128 (.t 10) (some (.t 49)) none)), mv 11 50])
 (.reg [mv 51 8, mv 52 11, mv 53 11, sm 54 (.p (.len false (.t 53))), mv 55 2, mv 56 8, sm 57 (.p (.len false (.t 56))), sm 58 (.p (.bin .sub (.t 55) (.t 57))), sm 59 (.p (.mm false (.t 54) (.t 58))), sm 60 (.v (.sub 1 (.t 52) none (some (.t 59)) none)), sm 61 (.l (.append 1 1 (.t 51) (.t 60))), mv 8 61]))))))))
 (.seq (.reg [mv 62 8, sm 63 (.d (.sl2s (.t 62))), mv 6 63, sm 7 (.p (.mov (.c (.bool true))))])
 .ret)))))
def rs121 : List AR := [.tmp 6, .tmp 7]
theorem ok121 : okF Tryz.prog 121 64 ac121 rs121 = true := by kernel_rfl
def ac122 : AC := (.seq (.reg [sm 4 (.p (.mov (.c zi6))), sm 5 (.p (.mov (.c .nili)))])
 (.seq (.reg [mv 6 0, sm 7 (.call 138 [(.t 6)])])
 (.seq (.reg [mv 8 0, mv 9 0, sm 10 (.p (.nilchk (.t 9))), fa 11 1 10, ld 12 11, mv 13 1, sm 14 (.l (.appendS 1 (.t 12) (.t 13))), sm 15 (.p (.nilchk (.t 8))), fa 16 1 15, st 1 16 14])
 (.seq (.reg [mv 17 1, sm 18 (.p (.len true (.t 17))), mv 4 18, sm 5 (.p (.mov (.c .nili)))])
 .ret))))
def rs122 : List AR := [.tmp 4, .tmp 5]
theorem ok122 : okF Tryz.prog 122 19 ac122 rs122 = true := by kernel_rfl
def ac123 : AC := (.seq (.reg [⟨some 2, .p (.mov (.c (.str ⟨#[]⟩))), none⟩])
 (.seq (.draw 12 [] [mv 3 0, sm 4 (.p (.nilchk (.t 3))), fa 5 1 4, ld 6 5, sm 7 (.p .panic), mv 8 0, sm 9 (.p (.nilchk (.t 8))), fa 10 1 9, ld 11 10, sm 12 (.p (.len false (.t 11))), sm 13 (.p .panic), mv 2 13])
 .ret))
def rs123 : List AR := [.tmp 2]
theorem ok123 : okF Tryz.prog 123 14 ac123 rs123 = true := by kernel_rfl
def ac124 : AC := (.seq (.reg [sm 4 (.h (.box (.t 0))), sm 5 (.h (.box (.t 1))), sm 8 (.h (.alloc [.nils]))])
 (.seq (.seq (.reg [mv 11 3, sm 12 (.p (.len false (.t 11))), sm 13 (.p (.mov (.c zi6)))])
 (.block 0 (.loop (.seq (.reg [sm 14 (.p (.bin .lss (.t 13) (.t 12)))])
 (.seq (.cond (.t 14) .skip (.exit 0))
 (.seq (.block 1 (.seq (.reg [sm 15 (.p (.idxA 1 none (.t 11) (.t 13))), ld 16 15, mv 10 16])
 (.draw 12 [(7, 11), (0, 11), (1, 11), (3, 11)] [la 18 1 4, la 19 2 5, mv 20 10, sm 21 (.call 139 [(.t 19), (.t 20), (.c (.int .i64 3))]), mv 22 2, sm 23 (.p (.convw .u32 (.t 22))), sm 24 (.v (.build [zi6, zi6, zu3] [(0, 1, (.t 21)), (1, 1, (.c (.int .i64 4))), (2, 1, (.t 23))])), sm 25 (.call 120 [(.t 18), (.t 24)]), mv 17 25, sm 26 (.p (.extract 0 (.t 17))), sm 27 (.p (.extract 1 (.t 17))), st 1 4 26])))
 (.reg [sm 28 (.p (.bin .add (.t 13) (.c (.int .i64 1)))), mv 13 28])))))))
 (.seq (.reg [la 29 1 4, st 1 8 29])
 .ret)))
def rs124 : List AR := [.cell 8 true 1]
theorem ok124 : okF Tryz.prog 124 30 ac124 rs124 = true := by kernel_rfl
def ac125 : AC := (.seq (.reg [sm 2 (.h (.box (.t 0))), sm 4 (.p (.mov (.c (.bool false))))])
 (.seq (.reg [fa 5 28 2, ld 6 5, sm 7 (.p (.un .not (.t 6))), mv 8 7, ⟨some 9, .p (.fieldA 27 (.t 2)), (some (8, true))⟩, ⟨some 10, .h (.load false 1 (.t 9)), (some (8, true))⟩, ⟨some 11, .p (.un .not (.t 10)), (some (8, true))⟩, ⟨some 12, .p (.mov (.t 11)), (some (8, true))⟩, ⟨some 13, .p (.mov (.t 1)), (some (12, false))⟩, ⟨some 14, .call 140 [(.t 13)], (some (12, false))⟩, ⟨some 15, .p (.binw .neq (.t 14) (.c zu3)), (some (12, false))⟩, ⟨some 16, .p (.pick (.t 12) (.c (.bool true)) (.t 15)), (some (8, true))⟩, sm 17 (.p (.pick (.t 8) (.t 16) (.c (.bool false)))), mv 4 17])
 .ret))
def rs125 : List AR := [.tmp 4]
theorem ok125 : okF Tryz.prog 125 18 ac125 rs125 = true := by kernel_rfl
def acA126 : AC := (.reg [sm 1 (.h (.box (.t 0)))])
def qs126 : List AO := [sm 8 (.p (.mkfn 141 [(.t 1)]))]
def acB126 : AC := (.seq (.seq (.draw 15 [] [ld 10 1, sm 11 (.p (.nilchk (.t 10))), fa 12 32 11, fa 13 31 12, la 14 30 13, ld 15 1, sm 16 (.p (.nilchk (.t 15))), fa 17 31 16, ld 18 17, sm 19 (.call 142 [(.t 14), (.t 18)]), mv 9 19, sm 20 (.p (.extract 0 (.t 9))), sm 21 (.p (.extract 1 (.t 9))), mv 2 20, mv 3 21])
 (.seq (.reg [mv 22 3])
 (.cond (.t 22) (.reg [ld 23 1, mv 24 2, sm 25 (.p (.bin .add (.c (.int .i64 16)) (.t 24))), sm 26 (.callx 143 [(.t 23), (.t 25), (.c zu3)])]) .skip)))
 (.seq (.reg [ld 27 1, sm 28 (.callx 144 [(.t 27)])])
 (.seq (.reg [ld 29 1, sm 30 (.p (.nilchk (.t 29))), fa 31 0 30, fa 32 0 31, ld 33 32, sm 34 (.p (.binw .add (.t 33) (.c (.int .u32 4)))), sm 35 (.p (.nilchk (.t 29))), fa 36 0 35, fa 37 0 36, st 1 37 34])
 (.seq (.reg [ld 39 1, sm 40 (.p (.nilchk (.t 39))), fa 41 103 40, fa 42 0 41, ld 43 42, sm 44 (.call 145 [(.t 43)]), mv 38 44, sm 45 (.p (.extract 0 (.t 38))), sm 46 (.p (.extract 1 (.t 38))), mv 4 45, mv 5 46])
 (.seq (.reg [mv 47 4, sm 48 (.p (.bin .neq (.t 47) (.c zi6)))])
 (.cond (.t 48) (.reg [ld 49 1, mv 50 4, mv 51 5, sm 52 (.callx 146 [(.t 49), (.t 50), (.t 51)])]) (.seq (.act 0 [3, 1, 1, 1, 1, 1, 2, 2, 2, 2, 2, 2] [sm 54 (.call 147 []), ld 55 1, sm 56 (.p (.nilchk (.t 55))), fa 57 103 56, fa 58 0 57, ld 59 58, sm 60 (.m (.get true (.c (.i .i64)) .nilf (.t 54) (.t 59))), mv 53 60, sm 61 (.p (.extract 0 (.t 53))), sm 62 (.p (.extract 1 (.t 53))), mv 6 61, mv 7 62])
 (.seq (.reg [mv 63 7])
 (.cond (.t 63) (.reg [mv 64 6, ld 65 1, sm 66 (.callvx (.t 64) [(.t 65)])]) (.reg [ld 67 1, sm 68 (.callx 148 [(.t 67)])]))))))))))
def rs126 : List AR := []
theorem ok126 : okFX Tryz.prog 126 69 acA126 qs126 8 acB126 rs126 = true := by kernel_rfl
def ac127 : AC := (.seq (.reg [sm 2 (.h (.box (.t 0))), sm 4 (.p (.mov (.c zu3)))])
 (.seq (.draw 10 [] [mv 5 1, fa 6 1 2, sm 7 (.p (.idxA 1 (some 4) (.t 6) (.t 5))), ld 8 7, mv 9 1, fa 10 5 2, sm 11 (.p (.idxA 1 (some 4) (.t 10) (.t 9))), ld 12 11, sm 13 (.p (.binw .and (.t 8) (.t 12))), mv 4 13])
 .ret))
def rs127 : List AR := [.tmp 4]
theorem ok127 : okF Tryz.prog 127 14 ac127 rs127 = true := by kernel_rfl
def ac128 : AC := (.seq (.reg [sm 2 (.h (.box (.t 0))), sm 3 (.h (.box (.t 1))), sm 4 (.p (.mov (.c (.bool false))))])
 (.seq (.seq (.reg [fa 6 0 2, ld 7 6, sm 8 (.v (.build [.nils] [(0, 1, (.t 7))])), fa 9 0 3, ld 10 9, fa 11 1 3, ld 12 11, sm 13 (.call 149 [(.t 8), (.t 10), (.t 12)]), sm 14 (.p (.un .not (.t 13)))])
 (.cond (.t 14) (.seq (.reg [sm 4 (.p (.mov (.c (.bool false))))])
 .ret) .skip))
 (.seq (.reg [fa 15 2 3, ld 16 15, mv 5 16])
 (.seq (.draw 19 [(14, 18)] [la 17 1 2, fa 18 0 3, ld 19 18, mv 20 5, sm 21 (.p (.convw .u8 (.t 20))), mv 22 5, sm 23 (.p (.binw .shr (.t 22) (.c (.int .u64 8)))), sm 24 (.p (.convw .u8 (.t 23))), mv 25 5, sm 26 (.p (.binw .shr (.t 25) (.c (.int .u64 16)))), sm 27 (.p (.convw .u8 (.t 26))), mv 28 5, sm 29 (.p (.binw .shr (.t 28) (.c (.int .u64 24)))), sm 30 (.p (.convw .u8 (.t 29))), sm 31 (.d (.bslice 1 4 [zu8] [(0, (.t 21)), (1, (.t 24)), (2, (.t 27)), (3, (.t 30))])), fa 32 1 3, ld 33 32, sm 34 (.v (.sub 1 (.t 31) none (some (.t 33)) none)), sm 35 (.call 71 [(.t 17), (.t 19), (.t 34)])])
 (.seq (.reg [sm 4 (.p (.mov (.c (.bool true))))])
 .ret)))))
def rs128 : List AR := [.tmp 4]
theorem ok128 : okF Tryz.prog 128 36 ac128 rs128 = true := by kernel_rfl
def ac129 : AC := (.seq (.reg [sm 2 (.h (.box (.t 0))), sm 4 (.h (.alloc [zi6, zu3, zu3, zu3, zu3, zu3, zu3, zu3, zu3, zi6, zi6, zi6, zi6, zi6, zi6, (.bool false), (.bool false), (.bool false), (.bool false), zi6, zi6, zi6, zi6, zi6, zi6, zi6, zi6, (.str .empty), zi6, zu3, zu3, zi6, zi6, .nils, .nils, zu3, zu3, zu3, zu3, zi6, zi6, zi6, zi6])), sm 5 (.h (.alloc [.nils, zu3, .nils, zi6]))])
 (.seq (.draw 8 [(1, 6), (6, 7), (1, 7), (3, 7)] [fa 6 0 2, la 7 43 6, fa 8 43 2, la 9 1 8, mv 10 1, sm 11 (.v (.build [.nils, zu3, .nils, zi6] [(0, 1, (.t 9)), (3, 1, (.t 10))])), st 43 4 7, st 4 5 11])
 .ret))
def rs129 : List AR := [.cell 4 true 43, .cell 5 true 4]
theorem ok129 : okF Tryz.prog 129 12 ac129 rs129 = true := by kernel_rfl
def ac130 : AC := (.seq (.reg [sm 1 (.h (.box (.t 0))), sm 2 (.h (.alloc [zi6, zi6, zi6, zi6, zi6])), sm 3 (.p (.mov (.c (.bool false))))])
 (.seq (.reg [sm 6 (.p (.mkfn 150 [(.t 1)])), mv 4 6])
 (.seq (.reg [mv 7 4, sm 8 (.callv (.t 7) [(.c (.int .i64 26)), (.c (.int .i64 6))]), mv 9 4, sm 10 (.callv (.t 9) [(.c (.int .i64 22)), (.c (.int .i64 4))]), mv 11 4, sm 12 (.callv (.t 11) [(.c (.int .i64 18)), (.c (.int .i64 4))]), sm 13 (.v (.build [zi6, zi6, zi6, zi6, zi6] [(0, 1, (.t 8)), (1, 1, (.t 10)), (2, 1, (.t 12))])), sm 5 (.h (.alloc [zi6, zi6, zi6, zi6, zi6])), st 5 5 13])
 (.seq (.seq (.reg [fa 14 0 5, ld 15 14, sm 16 (.call 151 [(.t 15)]), sm 17 (.p (.bin .eql (.t 16) (.c (.int .i64 1))))])
 (.cond (.t 17) (.seq (.reg [mv 18 4, sm 19 (.callv (.t 18) [(.c (.int .i64 14)), (.c (.int .i64 4))]), fa 20 3 5, st 1 20 19])
 (.seq (.reg [mv 21 4, sm 22 (.callv (.t 21) [(.c zi6), (.c (.int .i64 14))]), sm 23 (.p (.bin .neq (.t 22) (.c zi6)))])
 (.cond (.t 23) (.seq (.reg [sm 24 (.v (.build [zi6, zi6, zi6, zi6, zi6] [])), st 5 2 24, sm 3 (.p (.mov (.c (.bool false))))])
 .ret) .skip))) (.reg [mv 25 4, sm 26 (.callv (.t 25) [(.c zi6), (.c (.int .i64 18))]), sm 27 (.p (.binw .shl (.t 26) (.c (.int .u64 46)))), sm 28 (.p (.binw .shr (.t 27) (.c (.int .u64 46)))), fa 29 4 5, st 1 29 28])))
 (.seq (.seq (.reg [la 30 5 5, sm 31 (.call 152 [(.t 30)]), sm 32 (.p (.un .not (.t 31)))])
 (.cond (.t 32) (.seq (.reg [sm 33 (.v (.build [zi6, zi6, zi6, zi6, zi6] [])), st 5 2 33, sm 3 (.p (.mov (.c (.bool false))))])
 .ret) .skip))
 (.seq (.reg [la 34 5 5, st 5 2 34, sm 3 (.p (.mov (.c (.bool true))))])
 .ret))))))
def rs130 : List AR := [.cell 2 true 5, .tmp 3]
theorem ok130 : okF Tryz.prog 130 35 ac130 rs130 = true := by kernel_rfl
def ac131 : AC := (.seq (.reg [sm 2 (.h (.box (.t 0))), sm 3 (.h (.box (.t 1))), sm 4 (.h (.alloc [zu3, zu3, zu3, zu3, zu3, zu3, zu3, zu3, zu3, zu3, zu3, zu3, zu3, zu3, zu3, zu3, zu3, zu3, zu3, zu3, zu3, zu3, zu3, zu3, zu3, zu3, (.bool false), (.bool false), (.bool false), zi6]))])
 (.seq (.reg [fa 5 29 2, ld 6 5, sm 7 (.p (.bin .add (.t 6) (.c (.int .i64 1)))), fa 8 29 2, st 1 8 7])
 (.seq (.reg [fa 9 27 2, ⟨none, .h (.store 1 (.t 9) (.c (.bool false))), none⟩])
 (.seq (.reg [la 10 30 2, fa 11 0 3, ld 12 11, sm 13 (.p (.convw .u32 (.t 12))), fa 14 1 3, ld 15 14, fa 16 2 3, ld 17 16, sm 18 (.call 153 [(.t 10), (.t 13), (.t 15), (.t 17)]), st 30 4 18])
 .ret))))
def rs131 : List AR := [.cell 4 true 30]
theorem ok131 : okF Tryz.prog 131 19 ac131 rs131 = true := by kernel_rfl
def ac132 : AC := (.seq (.reg [sm 3 (.h (.box (.t 0))), sm 6 (.h (.alloc [zi6, (.bool false), (.bool false), (.bool false), (.bool false), zi6, zi6, zi6, zi6, zi6, zi6, zi6, zi6])), sm 7 (.p (.mov (.c (.bool false))))])
 (.seq (.seq (.reg [la 9 13 3, mv 10 1, sm 11 (.call 154 [(.t 9), (.t 10)]), mv 8 11])
 (.seq (.reg [mv 12 8, sm 13 (.p (.bin .eql (.t 12) (.c zi6))), mv 14 13, ⟨some 15, .p (.mov (.t 2)), (some (14, false))⟩, ⟨some 16, .p (.mov (.t 8)), (some (14, false))⟩, ⟨some 17, .p (.bin .lss (.t 15) (.t 16)), (some (14, false))⟩, sm 18 (.p (.pick (.t 14) (.c (.bool true)) (.t 17)))])
 (.cond (.t 18) (.seq (.reg [la 19 13 3, st 13 6 19, sm 7 (.p (.mov (.c (.bool false))))])
 .ret) .skip)))
 (.seq (.reg [mv 20 1, fa 21 9 3, sm 22 (.p (.idxA 1 (some 4) (.t 21) (.t 20))), ⟨none, .h (.store 1 (.t 22) (.c zi6)), none⟩])
 (.seq (.reg [la 23 13 3, st 13 6 23, sm 7 (.p (.mov (.c (.bool true))))])
 .ret))))
def rs132 : List AR := [.cell 6 true 13, .tmp 7]
theorem ok132 : okF Tryz.prog 132 24 ac132 rs132 = true := by kernel_rfl
def ac133 : AC := (.seq (.reg [sm 3 (.h (.box (.t 0))), sm 4 (.h (.box (.t 1))), sm 6 (.h (.alloc [zi6, zi6, zi6, (.bool false), zu3, zu3]))])
 (.seq (.reg [sm 7 (.h (.alloc [zu3, zu3, zu3, zu3]))])
 (.seq (.seq (.reg [sm 9 (.p (.mov (.c zi6)))])
 (.block 0 (.loop (.seq (.reg [sm 10 (.p (.bin .lss (.t 9) (.c (.int .i64 4))))])
 (.seq (.cond (.t 10) .skip (.exit 0))
 (.seq (.block 1 (.seq (.reg [mv 11 9, mv 8 11])
 (.draw 12 [(6, 11), (1, 11), (2, 11), (5, 11)] [mv 13 8, la 14 1 3, la 15 2 4, mv 16 2, mv 17 8, sm 18 (.call 139 [(.t 15), (.t 16), (.t 17)]), sm 19 (.call 155 [(.t 14), (.t 18), (.c (.int .i64 4))]), mv 12 19, sm 20 (.p (.extract 0 (.t 12))), sm 21 (.p (.extract 1 (.t 12))), sm 22 (.p (.idxA 1 (some 4) (.t 7) (.t 13))), st 1 22 20])))
 (.reg [sm 23 (.p (.bin .add (.t 9) (.c (.int .i64 1)))), mv 9 23])))))))
 (.seq (.reg [mv 24 2, sm 25 (.p (.idxA 1 (some 4) (.t 7) (.c zi6))), ld 26 25, sm 27 (.p (.conv .i64 (.t 26))), sm 28 (.p (.idxA 1 (some 4) (.t 7) (.c (.int .i64 1)))), ld 29 28, sm 30 (.p (.conv .i64 (.t 29))), sm 31 (.p (.idxA 1 (some 4) (.t 7) (.c (.int .i64 2)))), ld 32 31, sm 33 (.p (.binw .and (.t 32) (.c (.int .u32 1)))), sm 34 (.p (.binw .neq (.t 33) (.c zu3))), sm 35 (.v (.build [zi6, zi6, zi6, (.bool false)] [(0, 1, (.t 24)), (1, 1, (.t 27)), (2, 1, (.t 30)), (3, 1, (.t 34))])), sm 36 (.p (.idxA 1 (some 4) (.t 7) (.c (.int .i64 2)))), ld 37 36, sm 38 (.p (.idxA 1 (some 4) (.t 7) (.c (.int .i64 3)))), ld 39 38, sm 40 (.v (.build [zi6, zi6, zi6, (.bool false), zu3, zu3] [(0, 4, (.t 35)), (4, 1, (.t 37)), (5, 1, (.t 39))])), st 6 6 40])
 .ret))))
def rs133 : List AR := [.cell 6 true 6]
theorem ok133 : okF Tryz.prog 133 41 ac133 rs133 = true := by kernel_rfl
def ac134 : AC := (.seq (.reg [sm 1 (.h (.box (.t 0))), sm 2 (.p (.mov (.c (.bool false))))])
 (.seq (.reg [fa 3 4 1, ld 4 3, sm 5 (.p (.binw .andNot (.t 4) (.c (.int .u32 65283)))), sm 6 (.p (.binw .eql (.t 5) (.c zu3))), mv 7 6, ⟨some 8, .h (.load true 6 (.t 1)), (some (7, true))⟩, ⟨some 9, .call 135 [(.t 8)], (some (7, true))⟩, ⟨some 10, .p (.mov (.t 9)), (some (7, true))⟩, ⟨some 11, .h (.load true 6 (.t 1)), (some (10, false))⟩, ⟨some 12, .call 136 [(.t 11)], (some (10, false))⟩, ⟨some 13, .p (.bin .eql (.t 12) (.c zi6)), (some (10, false))⟩, ⟨some 14, .p (.pick (.t 10) (.c (.bool true)) (.t 13)), (some (7, true))⟩, sm 15 (.p (.pick (.t 7) (.t 14) (.c (.bool false)))), mv 2 15])
 .ret))
def rs134 : List AR := [.tmp 2]
theorem ok134 : okF Tryz.prog 134 16 ac134 rs134 = true := by kernel_rfl
def ac135 : AC := (.seq (.reg [sm 1 (.h (.box (.t 0))), sm 2 (.p (.mov (.c (.bool false))))])
 (.seq (.reg [fa 3 4 1, ld 4 3, sm 5 (.p (.binw .and (.t 4) (.c (.int .u32 2)))), sm 6 (.p (.binw .neq (.t 5) (.c zu3))), mv 2 6])
 .ret))
def rs135 : List AR := [.tmp 2]
theorem ok135 : okF Tryz.prog 135 7 ac135 rs135 = true := by kernel_rfl
def ac136 : AC := (.seq (.reg [sm 1 (.h (.box (.t 0))), sm 2 (.p (.mov (.c zi6)))])
 (.seq (.reg [fa 3 4 1, ld 4 3, sm 5 (.p (.binw .shr (.t 4) (.c (.int .u64 8)))), sm 6 (.p (.binw .and (.t 5) (.c (.int .u32 255)))), sm 7 (.p (.conv .i64 (.t 6))), mv 2 7])
 .ret))
def rs136 : List AR := [.tmp 2]
theorem ok136 : okF Tryz.prog 136 8 ac136 rs136 = true := by kernel_rfl
def ac137 : AC := (.seq (.reg [sm 4 (.h (.box (.t 0))), sm 5 (.h (.box (.t 1))), sm 8 (.h (.alloc [.nils]))])
 (.seq (.seq (.reg [mv 9 3, sm 10 (.p (.bin .lss (.t 9) (.c (.int .i64 160)))), mv 11 10, ⟨some 12, .p (.mov (.t 3)), (some (11, false))⟩, ⟨some 13, .p (.bin .gtr (.t 12) (.c (.int .i64 165))), (some (11, false))⟩, sm 14 (.p (.pick (.t 11) (.c (.bool true)) (.t 13)))])
 (.cond (.t 14) (.seq (.reg [la 15 1 4, st 1 8 15])
 .ret) .skip))
 (.seq (.reg [la 16 1 4, la 17 2 5, mv 18 3, sm 19 (.p (.bin .sub (.t 18) (.c (.int .i64 160)))), sm 20 (.p (.bin .add (.c (.int .i64 4)) (.t 19))), mv 21 2, sm 22 (.d (.bslice 1 1 [zi6] [(0, (.t 21))])), sm 23 (.call 124 [(.t 16), (.t 17), (.t 20), (.t 22)]), st 1 8 23])
 .ret)))
def rs137 : List AR := [.cell 8 true 1]
theorem ok137 : okF Tryz.prog 137 24 ac137 rs137 = true := by kernel_rfl
def ac139 : AC := (.seq (.reg [sm 3 (.h (.box (.t 0))), sm 6 (.p (.mov (.c zi6)))])
 (.seq (.reg [fa 7 0 3, ld 8 7, sm 9 (.p (.conv .i64 (.t 8))), mv 10 1, sm 11 (.p (.bin .mul (.c (.int .i64 16)) (.t 10))), sm 12 (.p (.bin .add (.t 9) (.t 11))), mv 13 2, sm 14 (.p (.bin .mul (.c (.int .i64 4)) (.t 13))), sm 15 (.p (.bin .add (.t 12) (.t 14))), mv 6 15])
 .ret))
def rs139 : List AR := [.tmp 6]
theorem ok139 : okF Tryz.prog 139 16 ac139 rs139 = true := by kernel_rfl
def ac140 : AC := (.seq (.reg [sm 2 (.p (.mov (.c zu3)))])
 (.seq (.reg [mv 3 0, sm 4 (.p (.binw .and (.t 3) (.c (.int .u32 31)))), mv 2 4])
 .ret))
def rs140 : List AR := [.tmp 2]
theorem ok140 : okF Tryz.prog 140 5 ac140 rs140 = true := by kernel_rfl
def ac141 : AC := (.block 0 (.seq (.reg [sm 6 (.v (.isni false (.t 4)))])
 (.cond (.t 6) (.seq (.reg [mv 1 4])
 (.draw 9 [(4, 8), (0, 8), (1, 8)] [ld 7 0, ld 8 0, sm 9 (.p (.nilchk (.t 8))), fa 10 0 9, la 11 30 10, sm 12 (.p (.nilchk (.t 7))), fa 13 32 12, fa 14 1 13, st 30 14 11])) (.seq (.reg [sm 15 (.v (.tas 308 (.agg [zi6, zu3, zu3]) (.t 4))), sm 16 (.p (.extract 1 (.t 15))), sm 17 (.p (.extract 0 (.t 15)))])
 (.cond (.t 16) (.seq (.reg [sm 2 (.h (.alloc [zi6, zu3, zu3])), st 3 2 17])
 (.draw 19 [(8, 14), (0, 14), (1, 14), (2, 14), (6, 14), (7, 14), (10, 18), (14, 18), (0, 18), (1, 18), (2, 18), (6, 18), (7, 18), (8, 18)] [ld 18 0, ld 19 0, ld 20 0, sm 21 (.p (.nilchk (.t 20))), fa 22 32 21, fa 23 31 22, la 24 30 23, la 25 3 2, sm 26 (.call 131 [(.t 24), (.t 25)]), fa 27 0 2, ld 28 27, sm 29 (.p (.nilchk (.t 18))), fa 30 32 29, fa 31 1 30, st 30 31 26, sm 32 (.p (.nilchk (.t 19))), fa 33 32 32, fa 34 70 33, st 1 34 28])) (.seq (.reg [mv 3 4])
 (.reg [mv 5 3, ⟨none, .pan (.t 5), none⟩])))))))
theorem ok141 : okFD Tryz.prog 141 35 4 ac141 = true := by kernel_rfl
def ac142 : AC := (.seq (.reg [sm 2 (.h (.box (.t 0))), sm 4 (.p (.mov (.c zi6))), sm 5 (.p (.mov (.c (.bool false))))])
 (.seq (.seq (.reg [fa 7 17 2, sm 8 (.p (.idxA 1 (some 9) (.t 7) (.c (.int .i64 5)))), ld 9 8, sm 10 (.p (.binw .and (.t 9) (.c (.int .u32 1)))), sm 11 (.p (.binw .eql (.t 10) (.c zu3)))])
 (.cond (.t 11) (.seq (.reg [sm 4 (.p (.mov (.c zi6))), sm 5 (.p (.mov (.c (.bool false))))])
 .ret) .skip))
 (.seq (.seq (.reg [sm 12 (.p (.mov (.c zi6)))])
 (.block 0 (.loop (.seq (.reg [sm 13 (.p (.bin .lss (.t 12) (.c (.int .i64 5))))])
 (.seq (.cond (.t 13) .skip (.exit 0))
 (.seq (.block 1 (.seq (.reg [mv 14 12, mv 6 14])
 (.seq (.reg [mv 15 1, mv 16 6, sm 17 (.p (.binw .shr (.t 15) (.t 16))), sm 18 (.p (.binw .and (.t 17) (.c (.int .u32 1)))), sm 19 (.p (.binw .eql (.t 18) (.c (.int .u32 1))))])
 (.cond (.t 19) (.seq (.reg [mv 20 6, mv 4 20, sm 5 (.p (.mov (.c (.bool true))))])
 .ret) .skip))))
 (.reg [sm 21 (.p (.bin .add (.t 12) (.c (.int .i64 1)))), mv 12 21])))))))
 (.seq (.reg [sm 4 (.p (.mov (.c zi6))), sm 5 (.p (.mov (.c (.bool false))))])
 .ret))))
def rs142 : List AR := [.tmp 4, .tmp 5]
theorem ok142 : okF Tryz.prog 142 22 ac142 rs142 = true := by kernel_rfl
def ac143 : AC := (.reg [mv 6 1, mv 7 2, mv 8 0, sm 9 (.p (.nilchk (.t 8))), fa 10 32 9, fa 11 31 10, fa 12 0 11, ld 13 12, sm 14 (.v (.build [zi6, zu3, zu3] [(0, 1, (.t 6)), (1, 1, (.t 7)), (2, 1, (.t 13))])), sm 15 (.v (.mkI 308 (.t 14))), ⟨none, .pan (.t 15), none⟩])
def rs143 : List AR := []
theorem ok143 : okF Tryz.prog 143 16 ac143 rs143 = true := by kernel_rfl
def ac144 : AC := (.seq (.reg [mv 5 0, sm 6 (.p (.nilchk (.t 5))), fa 7 32 6, fa 8 31 7, fa 9 0 8, ld 10 9, mv 2 10])
 (.seq (.seq (.reg [mv 11 2, sm 12 (.p (.binw .rem (.t 11) (.c (.int .u32 4)))), sm 13 (.p (.binw .neq (.t 12) (.c zu3)))])
 (.cond (.t 13) (.reg [mv 14 0, mv 15 2, sm 16 (.callx 143 [(.t 14), (.c (.int .i64 3)), (.t 15)])]) .skip))
 (.seq (.reg [mv 17 0, mv 18 0, mv 19 0, mv 20 2, sm 21 (.callx 158 [(.t 19), (.t 20), (.c (.int .i64 4))]), sm 22 (.call 157 [(.t 18), (.t 21), (.c (.int .i64 4))]), sm 23 (.p (.nilchk (.t 17))), fa 24 32 23, fa 25 61 24, st 1 25 22])
 (.seq (.reg [mv 27 0, sm 28 (.p (.nilchk (.t 27))), fa 29 32 28, fa 30 61 29, ld 31 30, sm 32 (.call 130 [(.t 31)]), mv 26 32, sm 33 (.p (.extract 0 (.t 26))), sm 34 (.p (.extract 1 (.t 26))), sm 3 (.h (.alloc [zi6, zi6, zi6, zi6, zi6])), st 5 3 33, mv 4 34])
 (.seq (.seq (.reg [mv 35 4, sm 36 (.p (.un .not (.t 35))), mv 37 36, ⟨some 38, .p (.mov (.t 0)), (some (37, false))⟩, ⟨some 39, .p (.nilchk (.t 38)), (some (37, false))⟩, ⟨some 40, .p (.fieldA 0 (.t 39)), (some (37, false))⟩, ⟨some 41, .p (.fieldA 26 (.t 40)), (some (37, false))⟩, ⟨some 42, .h (.load false 1 (.t 41)), (some (37, false))⟩, ⟨some 43, .p (.mov (.t 42)), (some (37, false))⟩, ⟨some 44, .p (.fieldA 0 (.t 3)), (some (43, true))⟩, ⟨some 45, .h (.load false 1 (.t 44)), (some (43, true))⟩, ⟨some 46, .call 159 [(.t 45)], (some (43, true))⟩, ⟨some 47, .p (.pick (.t 43) (.t 46) (.c (.bool false))), (some (37, false))⟩, sm 48 (.p (.pick (.t 37) (.c (.bool true)) (.t 47)))])
 (.cond (.t 48) (.reg [mv 49 0, mv 50 0, sm 51 (.p (.nilchk (.t 50))), fa 52 32 51, fa 53 61 52, ld 54 53, sm 55 (.callx 143 [(.t 49), (.c (.int .i64 2)), (.t 54)])]) .skip))
 (.reg [mv 56 0, la 57 5 3, sm 58 (.p (.nilchk (.t 56))), fa 59 103 58, st 5 59 57]))))))
def rs144 : List AR := []
theorem ok144 : okF Tryz.prog 144 60 ac144 rs144 = true := by kernel_rfl
end Go.Proofs

set_option maxRecDepth 100000
namespace Go.Proofs
open Go Go.Eng
def ac145 : AC := (.seq (.reg [sm 2 (.p (.mov (.c zi6))), sm 3 (.p (.mov (.c zi6)))])
 (.seq (.seq (.reg [mv 4 0])
 (.block 0 (.seq (.reg [sm 6 (.p (.bin .eql (.t 4) (.c (.int .i64 20)))), mv 5 6])
 (.cond (.t 5) (.seq (.reg [sm 2 (.p (.mov (.c (.int .i64 1)))), sm 3 (.p (.mov (.c (.int .i64 4))))])
 .ret) (.seq (.reg [sm 8 (.p (.bin .eql (.t 4) (.c (.int .i64 22)))), mv 7 8])
 (.cond (.t 7) (.seq (.reg [sm 2 (.p (.mov (.c (.int .i64 1)))), sm 3 (.p (.mov (.c (.int .i64 1))))])
 .ret) (.seq (.reg [sm 10 (.p (.bin .eql (.t 4) (.c (.int .i64 21)))), mv 9 10])
 (.cond (.t 9) (.seq (.reg [sm 2 (.p (.mov (.c (.int .i64 2)))), sm 3 (.p (.mov (.c (.int .i64 4))))])
 .ret) (.seq (.reg [sm 12 (.p (.bin .eql (.t 4) (.c (.int .i64 23)))), mv 11 12])
 (.cond (.t 11) (.seq (.reg [sm 2 (.p (.mov (.c (.int .i64 2)))), sm 3 (.p (.mov (.c (.int .i64 1))))])
 .ret) (.seq (.reg [sm 14 (.p (.bin .eql (.t 4) (.c (.int .i64 24)))), mv 13 14])
 (.cond (.t 13) (.seq (.reg [sm 2 (.p (.mov (.c (.int .i64 3)))), sm 3 (.p (.mov (.c (.int .i64 4))))])
 .ret) .skip))))))))))))
 (.seq (.reg [sm 2 (.p (.mov (.c zi6))), sm 3 (.p (.mov (.c zi6)))])
 .ret)))
def rs145 : List AR := [.tmp 2, .tmp 3]
theorem ok145 : okF Tryz.prog 145 15 ac145 rs145 = true := by kernel_rfl
def ac146 : AC := (.seq (.draw 19 [] [mv 9 0, mv 10 0, sm 11 (.p (.nilchk (.t 10))), fa 12 103 11, fa 13 2 12, ld 14 13, sm 15 (.p (.nilchk (.t 9))), fa 16 0 15, fa 17 1 16, sm 18 (.p (.idxA 1 (some 16) (.t 17) (.t 14))), ld 19 18, mv 20 0, sm 21 (.p (.nilchk (.t 20))), fa 22 103 21, fa 23 4 22, ld 24 23, sm 25 (.p (.convw .u32 (.t 24))), sm 26 (.p (.binw .add (.t 19) (.t 25))), mv 6 26])
 (.seq (.seq (.reg [mv 27 6, mv 28 2, sm 29 (.p (.convw .u32 (.t 28))), sm 30 (.p (.binw .rem (.t 27) (.t 29))), sm 31 (.p (.binw .neq (.t 30) (.c zu3)))])
 (.cond (.t 31) (.reg [mv 32 0, mv 33 6, sm 34 (.callx 143 [(.t 32), (.c (.int .i64 3)), (.t 33)])]) .skip))
 (.seq (.act 3 [0, 0, 0, 3, 1, 1, 1, 1, 1, 1, 1, 1, 1, 1, 1, 2, 2] [mv 35 0, mv 36 6, mv 37 1, sm 38 (.callx 158 [(.t 35), (.t 36), (.t 37)]), mv 39 0, mv 40 0, sm 41 (.p (.nilchk (.t 40))), fa 42 103 41, fa 43 1 42, ld 44 43, sm 45 (.p (.nilchk (.t 39))), fa 46 0 45, fa 47 1 46, sm 48 (.p (.idxA 1 (some 16) (.t 47) (.t 44))), ld 49 48, mv 7 38, mv 8 49])
 (.seq (.seq (.reg [mv 50 1, sm 51 (.p (.bin .neq (.t 50) (.c (.int .i64 2))))])
 (.cond (.t 51) (.reg [mv 52 0, mv 53 0, mv 54 7, mv 55 2, sm 56 (.call 157 [(.t 53), (.t 54), (.t 55)]), sm 57 (.call 160 [(.t 52), (.t 56)])]) .skip))
 (.seq (.reg [mv 58 1, sm 59 (.p (.bin .neq (.t 58) (.c (.int .i64 1))))])
 (.cond (.t 59) (.reg [mv 60 0, mv 61 7, mv 62 2, mv 63 8, sm 64 (.v (.build [zi6, zi6, zu3] [(0, 1, (.t 61)), (1, 1, (.t 62)), (2, 1, (.t 63))])), sm 65 (.call 161 [(.t 60), (.t 64)])]) .skip))))))
def rs146 : List AR := []
theorem ok146 : okF Tryz.prog 146 66 ac146 rs146 = true := by kernel_rfl
def ac147 : AC := (.seq (.reg [sm 0 (.p (.mov (.c .nilm)))])
 (.seq (.reg [sm 1 (.m .mk), ⟨none, .m (.set (.c (.i .i64)) (.t 1) (.c (.int .i64 28)) (.c (.func 162 []))), none⟩, ⟨none, .m (.set (.c (.i .i64)) (.t 1) (.c (.int .i64 29)) (.c (.func 162 []))), none⟩, ⟨none, .m (.set (.c (.i .i64)) (.t 1) (.c (.int .i64 30)) (.c (.func 162 []))), none⟩, ⟨none, .m (.set (.c (.i .i64)) (.t 1) (.c (.int .i64 31)) (.c (.func 162 []))), none⟩, ⟨none, .m (.set (.c (.i .i64)) (.t 1) (.c (.int .i64 32)) (.c (.func 163 []))), none⟩, ⟨none, .m (.set (.c (.i .i64)) (.t 1) (.c (.int .i64 33)) (.c (.func 163 []))), none⟩, ⟨none, .m (.set (.c (.i .i64)) (.t 1) (.c (.int .i64 42)) (.c (.func 164 []))), none⟩, ⟨none, .m (.set (.c (.i .i64)) (.t 1) (.c (.int .i64 43)) (.c (.func 164 []))), none⟩, ⟨none, .m (.set (.c (.i .i64)) (.t 1) (.c (.int .i64 44)) (.c (.func 165 []))), none⟩, ⟨none, .m (.set (.c (.i .i64)) (.t 1) (.c (.int .i64 46)) (.c (.func 166 []))), none⟩, ⟨none, .m (.set (.c (.i .i64)) (.t 1) (.c (.int .i64 47)) (.c (.func 166 []))), none⟩, mv 2 1, mv 0 2])
 .ret))
def rs147 : List AR := [.tmp 0]
theorem ok147 : okF Tryz.prog 147 3 ac147 rs147 = true := by kernel_rfl
def ac148 : AC := (.seq (.reg [mv 4 0, sm 5 (.p (.nilchk (.t 4))), fa 6 103 5, fa 7 0 6, ld 8 7])
 (.block 0 (.seq (.reg [sm 44 (.p (.bin .eql (.t 8) (.c (.int .i64 16)))), mv 43 44])
 (.cond (.t 43) (.draw 19 [] [mv 45 0, mv 46 0, mv 47 0, sm 48 (.p (.nilchk (.t 47))), fa 49 103 48, fa 50 2 49, ld 51 50, sm 52 (.p (.nilchk (.t 46))), fa 53 0 52, fa 54 1 53, sm 55 (.p (.idxA 1 (some 16) (.t 54) (.t 51))), ld 56 55, mv 57 0, sm 58 (.p (.nilchk (.t 57))), fa 59 103 58, fa 60 4 59, ld 61 60, sm 62 (.p (.convw .u32 (.t 61))), sm 63 (.p (.binw .add (.t 56) (.t 62))), sm 64 (.call 160 [(.t 45), (.t 63)])]) (.seq (.reg [sm 66 (.p (.bin .eql (.t 8) (.c (.int .i64 17)))), mv 65 66])
 (.cond (.t 65) (.reg [mv 67 0, mv 68 0, sm 69 (.p (.nilchk (.t 68))), fa 70 103 69, fa 71 4 70, ld 72 71, sm 73 (.p (.convw .u32 (.t 72))), sm 74 (.p (.binw .shl (.t 73) (.c (.int .u64 14)))), sm 75 (.call 160 [(.t 67), (.t 74)])]) (.seq (.reg [sm 77 (.p (.bin .eql (.t 8) (.c (.int .i64 40)))), mv 76 77])
 (.cond (.t 76) (.reg [mv 78 0, sm 79 (.p (.nilchk (.t 78))), fa 80 32 79, fa 81 31 80, fa 82 0 81, ld 83 82, sm 84 (.p (.binw .add (.t 83) (.c (.int .u32 4)))), sm 85 (.v (.build [zi6, zu3, zu3] [(0, 1, (.c (.int .i64 1))), (1, 1, (.c zu3)), (2, 1, (.t 84))])), sm 86 (.v (.mkI 308 (.t 85))), ⟨none, .pan (.t 86), none⟩]) (.seq (.reg [sm 88 (.p (.bin .eql (.t 8) (.c (.int .i64 41)))), mv 87 88])
 (.cond (.t 87) (.reg [mv 89 0, mv 90 0, sm 91 (.p (.nilchk (.t 90))), fa 92 0 91, la 93 30 92, sm 94 (.call 167 [(.t 93)]), sm 95 (.p (.nilchk (.t 89))), fa 96 0 95, st 30 96 94]) (.seq (.reg [sm 98 (.p (.bin .eql (.t 8) (.c (.int .i64 45)))), mv 97 98])
 (.cond (.t 97) (.reg [mv 99 0, sm 100 (.p (.nilchk (.t 99))), fa 101 0 100, fa 102 27 101, ⟨none, .h (.store 1 (.t 102) (.c (.bool true))), none⟩]) (.seq (.reg [sm 104 (.p (.bin .eql (.t 8) (.c (.int .i64 48)))), mv 103 104])
 (.cond (.t 103) (.reg [mv 105 0, sm 106 (.p (.nilchk (.t 105))), fa 107 0 106, fa 108 28 107, ⟨none, .h (.store 1 (.t 108) (.c (.bool true))), none⟩]) (.seq (.draw 33 [] [mv 10 0, sm 11 (.p (.nilchk (.t 10))), fa 12 103 11, fa 13 0 12, ld 14 13, mv 15 0, mv 16 0, sm 17 (.p (.nilchk (.t 16))), fa 18 103 17, fa 19 2 18, ld 20 19, sm 21 (.p (.nilchk (.t 15))), fa 22 0 21, fa 23 1 22, sm 24 (.p (.idxA 1 (some 16) (.t 23) (.t 20))), ld 25 24, mv 26 0, mv 27 0, sm 28 (.p (.nilchk (.t 27))), fa 29 103 28, fa 30 3 29, ld 31 30, sm 32 (.p (.nilchk (.t 26))), fa 33 0 32, fa 34 1 33, sm 35 (.p (.idxA 1 (some 16) (.t 34) (.t 31))), ld 36 35, sm 37 (.call 168 [(.t 14), (.t 25), (.t 36)]), mv 9 37, sm 38 (.p (.extract 0 (.t 9))), sm 39 (.p (.extract 1 (.t 9))), mv 2 38, mv 3 39])
 (.reg [mv 40 0, mv 41 2, sm 42 (.call 160 [(.t 40), (.t 41)])]))))))))))))))))
def rs148 : List AR := []
theorem ok148 : okF Tryz.prog 148 109 ac148 rs148 = true := by kernel_rfl
def ac149 : AC := (.seq (.reg [sm 3 (.h (.box (.t 0))), sm 6 (.p (.mov (.c (.bool false))))])
 (.seq (.reg [mv 7 2, sm 8 (.p (.bin .eql (.t 7) (.c (.int .i64 1)))), mv 9 8, ⟨some 10, .p (.mov (.t 2)), (some (9, false))⟩, ⟨some 11, .p (.bin .eql (.t 10) (.c (.int .i64 4))), (some (9, false))⟩, sm 12 (.p (.pick (.t 9) (.c (.bool true)) (.t 11))), mv 13 12, ⟨some 14, .p (.mov (.t 1)), (some (13, true))⟩, ⟨some 15, .p (.bin .geq (.t 14) (.c zi6)), (some (13, true))⟩, sm 16 (.p (.pick (.t 13) (.t 15) (.c (.bool false)))), mv 17 16, ⟨some 18, .p (.mov (.t 1)), (some (17, true))⟩, ⟨some 19, .p (.mov (.t 2)), (some (17, true))⟩, ⟨some 20, .p (.bin .rem (.t 18) (.t 19)), (some (17, true))⟩, ⟨some 21, .p (.bin .eql (.t 20) (.c zi6)), (some (17, true))⟩, sm 22 (.p (.pick (.t 17) (.t 21) (.c (.bool false)))), mv 23 22, ⟨some 24, .p (.mov (.t 1)), (some (23, true))⟩, ⟨some 25, .h (.load true 1 (.t 3)), (some (23, true))⟩, ⟨some 26, .call 69 [(.t 25)], (some (23, true))⟩, ⟨some 27, .p (.mov (.t 2)), (some (23, true))⟩, ⟨some 28, .p (.bin .sub (.t 26) (.t 27)), (some (23, true))⟩, ⟨some 29, .p (.bin .leq (.t 24) (.t 28)), (some (23, true))⟩, sm 30 (.p (.pick (.t 23) (.t 29) (.c (.bool false)))), mv 6 30])
 .ret))
def rs149 : List AR := [.tmp 6]
theorem ok149 : okF Tryz.prog 149 31 ac149 rs149 = true := by kernel_rfl
def ac150 : AC := (.seq (.reg [sm 5 (.p (.mov (.c zi6)))])
 (.seq (.draw 9 [] [ld 6 2, mv 7 0, sm 8 (.p (.binw .shr (.t 6) (.t 7))), mv 9 1, sm 10 (.p (.binw .shl (.c (.int .u32 1)) (.t 9))), sm 11 (.p (.binw .sub (.t 10) (.c (.int .u32 1)))), sm 12 (.p (.binw .and (.t 8) (.t 11))), sm 13 (.p (.conv .i64 (.t 12))), mv 5 13])
 .ret))
def rs150 : List AR := [.tmp 5]
theorem ok150 : okF Tryz.prog 150 14 ac150 rs150 = true := by kernel_rfl
def ac151 : AC := (.seq (.reg [sm 2 (.p (.mov (.c zi6)))])
 (.seq (.seq (.reg [sm 4 (.call 169 []), sm 3 (.h (.alloc [(.str .empty), zi6, (.str .empty), zi6, (.str .empty), zi6, (.str .empty), zi6, (.str .empty), zi6, (.str .empty), zi6, (.str .empty), zi6, (.str .empty), zi6, (.str .empty), zi6, (.str .empty), zi6, (.str .empty), zi6, (.str .empty), zi6, (.str .empty), zi6, (.str .empty), zi6, (.str .empty), zi6, (.str .empty), zi6, (.str .empty), zi6, (.str .empty), zi6, (.str .empty), zi6, (.str .empty), zi6, (.str .empty), zi6, (.str .empty), zi6, (.str .empty), zi6, (.str .empty), zi6, (.str .empty), zi6, (.str .empty), zi6, (.str .empty), zi6, (.str .empty), zi6, (.str .empty), zi6, (.str .empty), zi6, (.str .empty), zi6, (.str .empty), zi6, (.str .empty), zi6, (.str .empty), zi6, (.str .empty), zi6, (.str .empty), zi6, (.str .empty), zi6, (.str .empty), zi6, (.str .empty), zi6, (.str .empty), zi6, (.str .empty), zi6, (.str .empty), zi6, (.str .empty), zi6, (.str .empty), zi6, (.str .empty), zi6, (.str .empty), zi6, (.str .empty), zi6, (.str .empty), zi6, (.str .empty), zi6])), st 98 3 4])
 (.seq (.reg [mv 5 0, sm 6 (.p (.bin .geq (.t 5) (.c zi6))), mv 7 6, ⟨some 8, .p (.mov (.t 0)), (some (7, true))⟩, ⟨some 9, .p (.bin .lss (.t 8) (.c (.int .i64 49))), (some (7, true))⟩, sm 10 (.p (.pick (.t 7) (.t 9) (.c (.bool false))))])
 (.cond (.t 10) (.seq (.reg [mv 11 0, sm 12 (.p (.idxA 2 (some 49) (.t 3) (.t 11))), fa 13 1 12, ld 14 13, mv 2 14])
 .ret) .skip)))
 (.seq (.reg [sm 2 (.p (.mov (.c zi6)))])
 .ret)))
def rs151 : List AR := [.tmp 2]
theorem ok151 : okF Tryz.prog 151 15 ac151 rs151 = true := by kernel_rfl
def ac152 : AC := (.seq (.reg [sm 1 (.h (.box (.t 0))), sm 2 (.p (.mov (.c (.bool false))))])
 (.seq (.reg [sm 3 (.p (.mov (.c (.func 170 []))))])
 (.seq (.reg [fa 5 4 1, ld 6 5, sm 7 (.p (.bin .geq (.t 6) (.c (.int .i64 (-131072))))), mv 8 7, ⟨some 9, .p (.fieldA 4 (.t 1)), (some (8, true))⟩, ⟨some 10, .h (.load false 1 (.t 9)), (some (8, true))⟩, ⟨some 11, .p (.bin .leq (.t 10) (.c (.int .i64 131071))), (some (8, true))⟩, sm 12 (.p (.pick (.t 8) (.t 11) (.c (.bool false)))), mv 4 12])
 (.seq (.seq (.reg [fa 13 0 1, ld 14 13, sm 15 (.call 151 [(.t 14)])])
 (.block 0 (.seq (.reg [sm 17 (.p (.bin .eql (.t 15) (.c (.int .i64 1)))), mv 16 17])
 (.cond (.t 16) (.seq (.reg [mv 18 3, fa 19 1 1, ld 20 19, sm 21 (.callv (.t 18) [(.t 20)]), mv 22 21, ⟨some 23, .p (.mov (.t 3)), (some (22, true))⟩, ⟨some 24, .p (.fieldA 2 (.t 1)), (some (22, true))⟩, ⟨some 25, .h (.load false 1 (.t 24)), (some (22, true))⟩, ⟨some 26, .callv (.t 23) [(.t 25)], (some (22, true))⟩, sm 27 (.p (.pick (.t 22) (.t 26) (.c (.bool false)))), mv 28 27, ⟨some 29, .p (.mov (.t 3)), (some (28, true))⟩, ⟨some 30, .p (.fieldA 3 (.t 1)), (some (28, true))⟩, ⟨some 31, .h (.load false 1 (.t 30)), (some (28, true))⟩, ⟨some 32, .callv (.t 29) [(.t 31)], (some (28, true))⟩, sm 33 (.p (.pick (.t 28) (.t 32) (.c (.bool false)))), mv 34 33, ⟨some 35, .p (.fieldA 4 (.t 1)), (some (34, true))⟩, ⟨some 36, .h (.load false 1 (.t 35)), (some (34, true))⟩, ⟨some 37, .p (.bin .eql (.t 36) (.c zi6)), (some (34, true))⟩, sm 38 (.p (.pick (.t 34) (.t 37) (.c (.bool false)))), mv 2 38])
 .ret) (.seq (.reg [sm 40 (.p (.bin .eql (.t 15) (.c (.int .i64 2)))), mv 39 40])
 (.cond (.t 39) (.seq (.reg [mv 41 3, fa 42 1 1, ld 43 42, sm 44 (.callv (.t 41) [(.t 43)]), mv 45 44, ⟨some 46, .p (.mov (.t 3)), (some (45, true))⟩, ⟨some 47, .p (.fieldA 2 (.t 1)), (some (45, true))⟩, ⟨some 48, .h (.load false 1 (.t 47)), (some (45, true))⟩, ⟨some 49, .callv (.t 46) [(.t 48)], (some (45, true))⟩, sm 50 (.p (.pick (.t 45) (.t 49) (.c (.bool false)))), mv 51 50, ⟨some 52, .p (.mov (.t 4)), (some (51, true))⟩, sm 53 (.p (.pick (.t 51) (.t 52) (.c (.bool false)))), mv 54 53, ⟨some 55, .p (.fieldA 3 (.t 1)), (some (54, true))⟩, ⟨some 56, .h (.load false 1 (.t 55)), (some (54, true))⟩, ⟨some 57, .p (.bin .eql (.t 56) (.c zi6)), (some (54, true))⟩, sm 58 (.p (.pick (.t 54) (.t 57) (.c (.bool false)))), mv 2 58])
 .ret) (.seq (.reg [sm 60 (.p (.bin .eql (.t 15) (.c (.int .i64 3)))), mv 59 60])
 (.cond (.t 59) (.seq (.reg [mv 61 3, fa 62 1 1, ld 63 62, sm 64 (.callv (.t 61) [(.t 63)]), mv 65 64, ⟨some 66, .p (.mov (.t 4)), (some (65, true))⟩, sm 67 (.p (.pick (.t 65) (.t 66) (.c (.bool false)))), mv 68 67, ⟨some 69, .p (.fieldA 2 (.t 1)), (some (68, true))⟩, ⟨some 70, .h (.load false 1 (.t 69)), (some (68, true))⟩, ⟨some 71, .p (.bin .eql (.t 70) (.c zi6)), (some (68, true))⟩, sm 72 (.p (.pick (.t 68) (.t 71) (.c (.bool false)))), mv 73 72, ⟨some 74, .p (.fieldA 3 (.t 1)), (some (73, true))⟩, ⟨some 75, .h (.load false 1 (.t 74)), (some (73, true))⟩, ⟨some 76, .p (.bin .eql (.t 75) (.c zi6)), (some (73, true))⟩, sm 77 (.p (.pick (.t 73) (.t 76) (.c (.bool false)))), mv 2 77])
 .ret) (.seq (.reg [sm 79 (.p (.bin .eql (.t 15) (.c (.int .i64 4)))), mv 78 79])
 (.cond (.t 78) (.seq (.reg [la 80 5 1, fa 81 0 1, ld 82 81, fa 83 2 1, ld 84 83, sm 85 (.v (.build [zi6, zi6, zi6, zi6, zi6] [(0, 1, (.t 82)), (2, 1, (.t 84))])), sm 86 (.v (.eqa false [(.i .i64), (.i .i64), (.i .i64), (.i .i64), (.i .i64)] (.t 80) (.t 85))), mv 87 86, ⟨some 88, .p (.mov (.t 3)), (some (87, true))⟩, ⟨some 89, .p (.fieldA 2 (.t 1)), (some (87, true))⟩, ⟨some 90, .h (.load false 1 (.t 89)), (some (87, true))⟩, ⟨some 91, .callv (.t 88) [(.t 90)], (some (87, true))⟩, sm 92 (.p (.pick (.t 87) (.t 91) (.c (.bool false)))), mv 2 92])
 .ret) (.seq (.reg [sm 94 (.p (.bin .eql (.t 15) (.c (.int .i64 5)))), mv 93 94])
 (.cond (.t 93) (.seq (.reg [la 95 5 1, fa 96 0 1, ld 97 96, sm 98 (.v (.build [zi6, zi6, zi6, zi6, zi6] [(0, 1, (.t 97))])), sm 99 (.v (.eqa false [(.i .i64), (.i .i64), (.i .i64), (.i .i64), (.i .i64)] (.t 95) (.t 98))), mv 2 99])
 .ret) .skip))))))))))))
 (.seq (.reg [sm 2 (.p (.mov (.c (.bool false))))])
 .ret)))))
def rs152 : List AR := [.tmp 2]
theorem ok152 : okF Tryz.prog 152 100 ac152 rs152 = true := by kernel_rfl
def ac153 : AC := (.seq (.reg [sm 4 (.h (.box (.t 0))), sm 8 (.h (.alloc [zu3, zu3, zu3, zu3, zu3, zu3, zu3, zu3, zu3, zu3, zu3, zu3, zu3, zu3, zu3, zu3, zu3, zu3, zu3, zu3, zu3, zu3, zu3, zu3, zu3, zu3, (.bool false), (.bool false), (.bool false), zi6]))])
 (.seq (.reg [sm 9 (.p (.mov (.c zu3)))])
 (.seq (.seq (.reg [fa 10 17 4, sm 11 (.p (.idxA 1 (some 9) (.t 10) (.c (.int .i64 5)))), ld 12 11, sm 13 (.p (.binw .and (.t 12) (.c (.int .u32 1)))), sm 14 (.p (.binw .neq (.t 13) (.c zu3)))])
 (.cond (.t 14) (.reg [mv 15 9, sm 16 (.p (.binw .or (.t 15) (.c (.int .u32 2)))), mv 9 16]) .skip))
 (.seq (.seq (.reg [fa 17 26 4, ld 18 17])
 (.cond (.t 18) (.reg [mv 19 9, sm 20 (.p (.binw .or (.t 19) (.c (.int .u32 4)))), mv 9 20]) .skip))
 (.seq (.reg [mv 21 9, mv 22 1, mv 23 2, mv 24 3, fa 25 17 4, sm 26 (.p (.idxA 1 (some 9) (.t 25) (.c (.int .i64 5)))), st 1 26 21, fa 27 17 4, sm 28 (.p (.idxA 1 (some 9) (.t 27) (.c (.int .i64 3)))), st 1 28 22, fa 29 17 4, sm 30 (.p (.idxA 1 (some 9) (.t 29) (.c (.int .i64 4)))), st 1 30 23, fa 31 17 4, sm 32 (.p (.idxA 1 (some 9) (.t 31) (.c (.int .i64 2)))), st 1 32 24])
 (.seq (.reg [fa 33 17 4, sm 34 (.p (.idxA 1 (some 9) (.t 33) (.c (.int .i64 1)))), ld 35 34, fa 36 0 4, st 1 36 35, fa 37 26 4, ⟨none, .h (.store 1 (.t 37) (.c (.bool false))), none⟩, fa 38 27 4, ⟨none, .h (.store 1 (.t 38) (.c (.bool false))), none⟩])
 (.seq (.reg [la 39 30 4, st 30 8 39])
 .ret)))))))
def rs153 : List AR := [.cell 8 true 30]
theorem ok153 : okF Tryz.prog 153 40 ac153 rs153 = true := by kernel_rfl
def ac154 : AC := (.seq (.reg [sm 2 (.h (.box (.t 0))), sm 4 (.p (.mov (.c zi6)))])
 (.seq (.seq (.reg [mv 5 1, sm 6 (.call 97 [(.t 5)]), sm 7 (.p (.un .not (.t 6)))])
 (.cond (.t 7) (.seq (.reg [sm 4 (.p (.mov (.c zi6)))])
 .ret) .skip))
 (.seq (.reg [mv 8 1, fa 9 9 2, sm 10 (.p (.idxA 1 (some 4) (.t 9) (.t 8))), ld 11 10, mv 4 11])
 .ret)))
def rs154 : List AR := [.tmp 4]
theorem ok154 : okF Tryz.prog 154 12 ac154 rs154 = true := by kernel_rfl
def ac155 : AC := (.seq (.reg [sm 3 (.h (.box (.t 0))), sm 6 (.p (.mov (.c zu3))), sm 7 (.p (.mov (.c (.bool false))))])
 (.seq (.seq (.reg [la 9 1 3, mv 10 1, mv 11 2, sm 12 (.call 149 [(.t 9), (.t 10), (.t 11)]), sm 13 (.p (.un .not (.t 12)))])
 (.cond (.t 13) (.seq (.reg [sm 6 (.p (.mov (.c zu3))), sm 7 (.p (.mov (.c (.bool false))))])
 .ret) .skip))
 (.seq (.reg [fa 14 0 3, ld 15 14, mv 16 1, sm 17 (.p (.bin .quo (.t 16) (.c (.int .i64 128)))), sm 18 (.p (.idxA 128 none (.t 15) (.t 17))), mv 19 1, sm 20 (.p (.bin .rem (.t 19) (.c (.int .i64 128)))), sm 21 (.d (.asub 1 128 (.t 18) (some (.t 20)) none)), mv 8 21])
 (.seq (.seq (.reg [mv 22 2, sm 23 (.p (.bin .eql (.t 22) (.c (.int .i64 1))))])
 (.cond (.t 23) (.seq (.reg [mv 24 8, sm 25 (.p (.idxA 1 none (.t 24) (.c zi6))), ld 26 25, sm 27 (.p (.conv .u32 (.t 26))), mv 6 27, sm 7 (.p (.mov (.c (.bool true))))])
 .ret) .skip))
 (.seq (.draw 24 [] [mv 28 8, sm 29 (.p (.idxA 1 none (.t 28) (.c zi6))), ld 30 29, sm 31 (.p (.conv .u32 (.t 30))), mv 32 8, sm 33 (.p (.idxA 1 none (.t 32) (.c (.int .i64 1)))), ld 34 33, sm 35 (.p (.conv .u32 (.t 34))), sm 36 (.p (.binw .shl (.t 35) (.c (.int .u64 8)))), sm 37 (.p (.binw .or (.t 31) (.t 36))), mv 38 8, sm 39 (.p (.idxA 1 none (.t 38) (.c (.int .i64 2)))), ld 40 39, sm 41 (.p (.conv .u32 (.t 40))), sm 42 (.p (.binw .shl (.t 41) (.c (.int .u64 16)))), sm 43 (.p (.binw .or (.t 37) (.t 42))), mv 44 8, sm 45 (.p (.idxA 1 none (.t 44) (.c (.int .i64 3)))), ld 46 45, sm 47 (.p (.conv .u32 (.t 46))), sm 48 (.p (.binw .shl (.t 47) (.c (.int .u64 24)))), sm 49 (.p (.binw .or (.t 43) (.t 48))), mv 6 49, sm 7 (.p (.mov (.c (.bool true))))])
 .ret)))))
def rs155 : List AR := [.tmp 6, .tmp 7]
theorem ok155 : okF Tryz.prog 155 50 ac155 rs155 = true := by kernel_rfl
def ac157 : AC := (.seq (.reg [sm 6 (.p (.mov (.c zu3)))])
 (.seq (.reg [mv 9 0, mv 10 0, sm 11 (.p (.nilchk (.t 10))), fa 12 32 11, fa 13 63 12, ld 14 13, mv 15 1, mv 16 2, sm 17 (.v (.build [zi6, zi6, (.bool false)] [(0, 1, (.t 15)), (1, 1, (.t 16))])), sm 18 (.d (.bslice 3 1 [zi6, zi6, (.bool false)] [(0, (.t 17))])), sm 19 (.l (.append 3 24 (.t 14) (.t 18))), sm 20 (.p (.nilchk (.t 9))), fa 21 32 20, fa 22 63 21, st 1 22 19])
 (.seq (.reg [mv 24 0, sm 25 (.p (.nilchk (.t 24))), fa 26 30 25, la 27 1 26, mv 28 1, mv 29 2, sm 30 (.call 155 [(.t 27), (.t 28), (.t 29)]), mv 23 30, sm 31 (.p (.extract 0 (.t 23))), sm 32 (.p (.extract 1 (.t 23))), mv 7 31, mv 8 32])
 (.seq (.reg [mv 33 7, mv 6 33])
 .ret))))
def rs157 : List AR := [.tmp 6]
theorem ok157 : okF Tryz.prog 157 34 ac157 rs157 = true := by kernel_rfl
def ac158 : AC := (.seq (.reg [sm 6 (.p (.mov (.c zi6)))])
 (.seq (.draw 26 [(23, 24), (19, 24), (3, 24), (10, 24), (18, 24)] [mv 14 0, sm 15 (.p (.nilchk (.t 14))), fa 16 30 15, la 17 1 16, mv 18 0, sm 19 (.p (.nilchk (.t 18))), fa 20 32 19, fa 21 31 20, fa 22 17 21, sm 23 (.p (.idxA 1 (some 9) (.t 22) (.c zi6))), ld 24 23, mv 25 1, mv 26 2, mv 27 0, sm 28 (.p (.nilchk (.t 27))), fa 29 32 28, fa 30 31 29, fa 31 26 30, ld 32 31, sm 33 (.call 171 [(.t 17), (.t 24), (.t 25), (.t 26), (.t 32)]), mv 13 33, sm 34 (.p (.extract 0 (.t 13))), sm 35 (.p (.extract 1 (.t 13))), sm 7 (.h (.alloc [zi6, zi6, .nils, .nils])), st 4 7 34, mv 8 35])
 (.seq (.seq (.reg [fa 36 3 7, ld 37 36, sm 38 (.p (.len false (.t 37))), sm 39 (.p (.mov (.c zi6)))])
 (.block 0 (.loop (.seq (.reg [sm 40 (.p (.bin .lss (.t 39) (.t 38)))])
 (.seq (.cond (.t 40) .skip (.exit 0))
 (.seq (.block 1 (.seq (.reg [sm 41 (.p (.idxA 1 none (.t 37) (.t 39))), ld 42 41, mv 10 42])
 (.reg [mv 43 0, mv 44 10, sm 45 (.call 157 [(.t 43), (.t 44), (.c (.int .i64 4))])])))
 (.reg [sm 46 (.p (.bin .add (.t 39) (.c (.int .i64 1)))), mv 39 46])))))))
 (.seq (.seq (.reg [fa 47 2 7, ld 48 47, sm 49 (.p (.len false (.t 48))), sm 50 (.p (.mov (.c zi6)))])
 (.block 2 (.loop (.seq (.reg [sm 51 (.p (.bin .lss (.t 50) (.t 49)))])
 (.seq (.cond (.t 51) .skip (.exit 2))
 (.seq (.block 3 (.seq (.reg [sm 52 (.p (.idxA 3 none (.t 48) (.t 50))), la 53 3 52, sm 12 (.h (.alloc [zi6, zi6, zu3])), st 3 12 53])
 (.reg [mv 54 0, la 55 3 12, sm 56 (.call 161 [(.t 54), (.t 55)])])))
 (.reg [sm 57 (.p (.bin .add (.t 50) (.c (.int .i64 1)))), mv 50 57])))))))
 (.seq (.seq (.reg [mv 58 8, sm 59 (.p (.bin .neq (.t 58) (.c zi6)))])
 (.cond (.t 59) (.reg [mv 60 0, mv 61 8, mv 62 1, sm 63 (.callx 143 [(.t 60), (.t 61), (.t 62)])]) .skip))
 (.seq (.reg [fa 64 0 7, ld 65 64, mv 6 65])
 .ret))))))
def rs158 : List AR := [.tmp 6]
theorem ok158 : okF Tryz.prog 158 66 ac158 rs158 = true := by kernel_rfl
def ac159 : AC := (.seq (.reg [sm 2 (.p (.mov (.c (.bool false))))])
 (.seq (.reg [mv 3 0, sm 4 (.p (.bin .geq (.t 3) (.c (.int .i64 41)))), mv 5 4, ⟨some 6, .p (.mov (.t 0)), (some (5, true))⟩, ⟨some 7, .p (.bin .leq (.t 6) (.c (.int .i64 48))), (some (5, true))⟩, sm 8 (.p (.pick (.t 5) (.t 7) (.c (.bool false)))), mv 2 8])
 .ret))
def rs159 : List AR := [.tmp 2]
theorem ok159 : okF Tryz.prog 159 9 ac159 rs159 = true := by kernel_rfl
def ac160 : AC := (.seq (.reg [mv 4 0, sm 5 (.p (.nilchk (.t 4))), fa 6 103 5, fa 7 1 6, ld 8 7, sm 9 (.p (.bin .neq (.t 8) (.c zi6)))])
 (.cond (.t 9) (.draw 12 [(5, 11)] [mv 10 0, mv 11 0, sm 12 (.p (.nilchk (.t 11))), fa 13 103 12, fa 14 1 13, ld 15 14, mv 16 1, sm 17 (.p (.nilchk (.t 10))), fa 18 0 17, fa 19 1 18, sm 20 (.p (.idxA 1 (some 16) (.t 19) (.t 15))), st 1 20 16]) .skip))
def rs160 : List AR := []
theorem ok160 : okF Tryz.prog 160 21 ac160 rs160 = true := by kernel_rfl
def ac161 : AC := (.seq (.reg [sm 3 (.h (.box (.t 1)))])
 (.seq (.draw 17 [(7, 11), (9, 11), (5, 12), (11, 12), (7, 12), (9, 12), (12, 16), (5, 16), (7, 16), (9, 16), (11, 16)] [mv 4 0, mv 5 0, sm 6 (.p (.nilchk (.t 5))), fa 7 32 6, fa 8 63 7, ld 9 8, fa 10 0 3, ld 11 10, fa 12 1 3, ld 13 12, sm 14 (.v (.build [zi6, zi6, (.bool false)] [(0, 1, (.t 11)), (1, 1, (.t 13)), (2, 1, (.c (.bool true)))])), sm 15 (.d (.bslice 3 1 [zi6, zi6, (.bool false)] [(0, (.t 14))])), sm 16 (.l (.append 3 24 (.t 9) (.t 15))), sm 17 (.p (.nilchk (.t 4))), fa 18 32 17, fa 19 63 18, st 1 19 16])
 (.seq (.draw 13 [(6, 7), (5, 8), (7, 8), (6, 8), (8, 12), (5, 12), (6, 12), (7, 12)] [mv 20 0, mv 21 0, sm 22 (.p (.nilchk (.t 21))), fa 23 32 22, fa 24 62 23, ld 25 24, la 26 3 3, sm 27 (.d (.bslice 3 1 [zi6, zi6, zu3] [(0, (.t 26))])), sm 28 (.l (.append 3 24 (.t 25) (.t 27))), sm 29 (.p (.nilchk (.t 20))), fa 30 32 29, fa 31 62 30, st 1 31 28])
 (.draw 13 [(6, 12), (4, 12), (5, 12)] [mv 33 0, mv 34 0, sm 35 (.p (.nilchk (.t 34))), fa 36 30 35, la 37 1 36, la 38 3 3, sm 39 (.call 120 [(.t 37), (.t 38)]), mv 32 39, sm 40 (.p (.extract 0 (.t 32))), sm 41 (.p (.extract 1 (.t 32))), sm 42 (.p (.nilchk (.t 33))), fa 43 30 42, st 1 43 40]))))
def rs161 : List AR := []
theorem ok161 : okF Tryz.prog 161 44 ac161 rs161 = true := by kernel_rfl
def ac162 : AC := (.seq (.draw 28 [] [mv 2 0, sm 3 (.p (.nilchk (.t 2))), fa 4 103 3, fa 5 0 4, ld 6 5, mv 7 0, mv 8 0, sm 9 (.p (.nilchk (.t 8))), fa 10 103 9, fa 11 1 10, ld 12 11, sm 13 (.p (.nilchk (.t 7))), fa 14 0 13, fa 15 1 14, sm 16 (.p (.idxA 1 (some 16) (.t 15) (.t 12))), ld 17 16, mv 18 0, mv 19 0, sm 20 (.p (.nilchk (.t 19))), fa 21 103 20, fa 22 2 21, ld 23 22, sm 24 (.p (.nilchk (.t 18))), fa 25 0 24, fa 26 1 25, sm 27 (.p (.idxA 1 (some 16) (.t 26) (.t 23))), ld 28 27, sm 29 (.call 172 [(.t 6), (.t 17), (.t 28)])])
 (.cond (.t 29) (.draw 19 [(11, 18), (6, 18), (10, 18)] [mv 31 0, mv 32 0, sm 33 (.p (.nilchk (.t 32))), fa 34 32 33, fa 35 31 34, fa 36 0 35, ld 37 36, mv 38 0, sm 39 (.p (.nilchk (.t 38))), fa 40 103 39, la 41 5 40, sm 42 (.call 173 [(.t 37), (.t 41)]), mv 30 42, sm 43 (.p (.extract 0 (.t 30))), sm 44 (.p (.extract 1 (.t 30))), sm 45 (.p (.nilchk (.t 31))), fa 46 0 45, fa 47 0 46, st 1 47 43]) .skip))
def rs162 : List AR := []
theorem ok162 : okF Tryz.prog 162 48 ac162 rs162 = true := by kernel_rfl
def ac163 : AC := (.seq (.draw 16 [] [mv 5 0, sm 6 (.p (.nilchk (.t 5))), fa 7 32 6, fa 8 31 7, fa 9 0 8, ld 10 9, mv 11 0, sm 12 (.p (.nilchk (.t 11))), fa 13 103 12, la 14 5 13, sm 15 (.call 173 [(.t 10), (.t 14)]), mv 4 15, sm 16 (.p (.extract 0 (.t 4))), sm 17 (.p (.extract 1 (.t 4))), mv 2 16, mv 3 17])
 (.seq (.seq (.reg [mv 18 3, sm 19 (.p (.un .not (.t 18)))])
 (.cond (.t 19) (.draw 19 [] [mv 20 0, mv 21 0, sm 22 (.p (.nilchk (.t 21))), fa 23 103 22, fa 24 2 23, ld 25 24, sm 26 (.p (.nilchk (.t 20))), fa 27 0 26, fa 28 1 27, sm 29 (.p (.idxA 1 (some 16) (.t 28) (.t 25))), ld 30 29, mv 31 0, sm 32 (.p (.nilchk (.t 31))), fa 33 103 32, fa 34 4 33, ld 35 34, sm 36 (.p (.convw .u32 (.t 35))), sm 37 (.p (.binw .add (.t 30) (.t 36))), mv 2 37]) .skip))
 (.seq (.reg [mv 38 0, mv 39 0, sm 40 (.p (.nilchk (.t 39))), fa 41 32 40, fa 42 31 41, fa 43 0 42, ld 44 43, sm 45 (.p (.binw .add (.t 44) (.c (.int .u32 4)))), sm 46 (.call 160 [(.t 38), (.t 45)])])
 (.reg [mv 47 0, mv 48 2, sm 49 (.p (.nilchk (.t 47))), fa 50 0 49, fa 51 0 50, st 1 51 48]))))
def rs163 : List AR := []
theorem ok163 : okF Tryz.prog 163 52 ac163 rs163 = true := by kernel_rfl
def ac164 : AC := (.seq (.reg [sm 2 (.p (.mov (.c zu3)))])
 (.seq (.reg [sm 3 (.p (.mov (.c zi6)))])
 (.seq (.seq (.reg [mv 4 0, sm 5 (.p (.nilchk (.t 4))), fa 6 103 5, fa 7 0 6, ld 8 7, sm 9 (.p (.bin .eql (.t 8) (.c (.int .i64 42))))])
 (.cond (.t 9) (.seq (.draw 19 [] [mv 11 0, sm 12 (.p (.nilchk (.t 11))), fa 13 0 12, la 14 30 13, mv 15 0, sm 16 (.p (.nilchk (.t 15))), fa 17 103 16, fa 18 4 17, ld 19 18, mv 20 0, sm 21 (.p (.nilchk (.t 20))), fa 22 31 21, ld 23 22, sm 24 (.call 174 [(.t 14), (.t 19), (.t 23)]), mv 10 24, sm 25 (.p (.extract 0 (.t 10))), sm 26 (.p (.extract 1 (.t 10))), mv 2 25, mv 3 26])
 (.reg [mv 27 0, mv 28 2, sm 29 (.call 160 [(.t 27), (.t 28)])])) (.draw 29 [(21, 27), (4, 27), (9, 27), (15, 27), (20, 27)] [mv 31 0, mv 32 0, sm 33 (.p (.nilchk (.t 32))), fa 34 0 33, la 35 30 34, mv 36 0, sm 37 (.p (.nilchk (.t 36))), fa 38 103 37, fa 39 4 38, ld 40 39, mv 41 0, mv 42 0, sm 43 (.p (.nilchk (.t 42))), fa 44 103 43, fa 45 1 44, ld 46 45, sm 47 (.p (.nilchk (.t 41))), fa 48 0 47, fa 49 1 48, sm 50 (.p (.idxA 1 (some 16) (.t 49) (.t 46))), ld 51 50, sm 52 (.call 175 [(.t 35), (.t 40), (.t 51)]), mv 30 52, sm 53 (.p (.extract 0 (.t 30))), sm 54 (.p (.extract 1 (.t 30))), sm 55 (.p (.nilchk (.t 31))), fa 56 0 55, st 30 56 53, mv 3 54])))
 (.seq (.reg [mv 57 3, sm 58 (.p (.bin .neq (.t 57) (.c zi6)))])
 (.cond (.t 58) (.reg [mv 59 0, mv 60 0, sm 61 (.p (.nilchk (.t 60))), fa 62 32 61, fa 63 61 62, ld 64 63, sm 65 (.callx 143 [(.t 59), (.c (.int .i64 2)), (.t 64)])]) .skip)))))
def rs164 : List AR := []
theorem ok164 : okF Tryz.prog 164 66 ac164 rs164 = true := by kernel_rfl
def ac165 : AC := (.seq (.reg [mv 2 0, sm 3 (.p (.nilchk (.t 2))), fa 4 32 3, fa 5 68 4, ⟨none, .h (.store 1 (.t 5) (.c (.int .i64 2))), none⟩])
 (.seq (.reg [mv 6 0, sm 7 (.p (.nilchk (.t 6))), fa 8 103 7, fa 9 2 8, ld 10 9, sm 11 (.p (.bin .neq (.t 10) (.c zi6)))])
 (.cond (.t 11) (.draw 21 [(7, 16), (12, 16), (12, 20), (16, 20), (7, 20)] [mv 12 0, mv 13 0, mv 14 0, mv 15 0, sm 16 (.p (.nilchk (.t 15))), fa 17 103 16, fa 18 2 17, ld 19 18, sm 20 (.p (.nilchk (.t 14))), fa 21 0 20, fa 22 1 21, sm 23 (.p (.idxA 1 (some 16) (.t 22) (.t 19))), ld 24 23, sm 25 (.p (.nilchk (.t 12))), fa 26 32 25, fa 27 68 26, ⟨none, .h (.store 1 (.t 27) (.c (.int .i64 1))), none⟩, sm 28 (.p (.nilchk (.t 13))), fa 29 32 28, fa 30 69 29, st 1 30 24]) .skip)))
def rs165 : List AR := []
theorem ok165 : okF Tryz.prog 165 31 ac165 rs165 = true := by kernel_rfl
def ac166 : AC := (.seq (.draw 22 [(6, 17), (12, 17), (17, 21), (6, 21), (12, 21)] [mv 2 0, mv 3 0, mv 4 0, sm 5 (.p (.nilchk (.t 4))), fa 6 103 5, fa 7 0 6, ld 8 7, sm 9 (.p (.bin .eql (.t 8) (.c (.int .i64 46)))), mv 10 0, sm 11 (.p (.nilchk (.t 10))), fa 12 103 11, fa 13 4 12, ld 14 13, sm 15 (.v (.build [(.bool false), zi6, zu3] [(0, 1, (.t 9)), (1, 1, (.t 14))])), sm 16 (.p (.nilchk (.t 2))), fa 17 32 16, fa 18 64 17, ⟨none, .h (.store 1 (.t 18) (.c (.bool true))), none⟩, sm 19 (.p (.nilchk (.t 3))), fa 20 32 19, fa 21 65 20, st 3 21 15])
 (.seq (.reg [mv 22 0, sm 23 (.p (.nilchk (.t 22))), fa 24 32 23, fa 25 65 24, fa 26 0 25, ld 27 26, sm 28 (.p (.un .not (.t 27)))])
 (.cond (.t 28) (.draw 17 [(11, 16), (6, 16)] [mv 29 0, mv 30 0, mv 31 0, sm 32 (.p (.nilchk (.t 31))), fa 33 103 32, fa 34 1 33, ld 35 34, sm 36 (.p (.nilchk (.t 30))), fa 37 0 36, fa 38 1 37, sm 39 (.p (.idxA 1 (some 16) (.t 38) (.t 35))), ld 40 39, sm 41 (.p (.nilchk (.t 29))), fa 42 32 41, fa 43 65 42, fa 44 2 43, st 1 44 40]) .skip)))
def rs166 : List AR := []
theorem ok166 : okF Tryz.prog 166 45 ac166 rs166 = true := by kernel_rfl
def ac167 : AC := (.seq (.reg [sm 1 (.h (.box (.t 0))), sm 2 (.h (.alloc [zu3, zu3, zu3, zu3, zu3, zu3, zu3, zu3, zu3, zu3, zu3, zu3, zu3, zu3, zu3, zu3, zu3, zu3, zu3, zu3, zu3, zu3, zu3, zu3, zu3, zu3, (.bool false), (.bool false), (.bool false), zi6]))])
 (.seq (.reg [fa 4 17 1, sm 5 (.p (.idxA 1 (some 9) (.t 4) (.c (.int .i64 5)))), ld 6 5, mv 3 6])
 (.seq (.reg [fa 7 17 1, sm 8 (.p (.idxA 1 (some 9) (.t 7) (.c (.int .i64 2)))), ld 9 8, mv 10 3, sm 11 (.p (.binw .and (.t 10) (.c (.int .u32 4)))), sm 12 (.p (.binw .neq (.t 11) (.c zu3))), fa 13 0 1, st 1 13 9, fa 14 26 1, st 1 14 12])
 (.seq (.reg [fa 15 17 1, sm 16 (.p (.idxA 1 (some 9) (.t 15) (.c (.int .i64 5)))), ⟨none, .h (.store 1 (.t 16) (.c (.int .u32 2))), none⟩])
 (.seq (.seq (.reg [mv 17 3, sm 18 (.p (.binw .and (.t 17) (.c (.int .u32 2)))), sm 19 (.p (.binw .neq (.t 18) (.c zu3)))])
 (.cond (.t 19) (.reg [fa 20 17 1, sm 21 (.p (.idxA 1 (some 9) (.t 20) (.c (.int .i64 5)))), ld 22 21, sm 23 (.p (.binw .or (.t 22) (.c (.int .u32 1)))), fa 24 17 1, sm 25 (.p (.idxA 1 (some 9) (.t 24) (.c (.int .i64 5)))), st 1 25 23]) .skip))
 (.seq (.reg [la 26 30 1, st 30 2 26])
 .ret))))))
def rs167 : List AR := [.cell 2 true 30]
theorem ok167 : okF Tryz.prog 167 27 ac167 rs167 = true := by kernel_rfl
def ac168 : AC := (.seq (.reg [sm 6 (.p (.mov (.c zu3))), sm 7 (.p (.mov (.c zi6)))])
 (.seq (.seq (.reg [mv 10 0])
 (.block 0 (.seq (.reg [sm 12 (.p (.bin .eql (.t 10) (.c (.int .i64 1)))), mv 11 12])
 (.cond (.t 11) (.seq (.reg [mv 13 1, mv 14 2, sm 15 (.p (.binw .add (.t 13) (.t 14))), mv 6 15, sm 7 (.p (.mov (.c zi6)))])
 .ret) (.seq (.reg [sm 17 (.p (.bin .eql (.t 10) (.c (.int .i64 2)))), mv 16 17])
 (.cond (.t 16) (.seq (.reg [mv 18 1, mv 19 2, sm 20 (.p (.binw .sub (.t 18) (.t 19))), mv 6 20, sm 7 (.p (.mov (.c zi6)))])
 .ret) .skip))))))
 (.seq (.reg [sm 22 (.call 176 []), mv 23 0, sm 24 (.m (.get true (.c (.i .i64)) .nilf (.t 22) (.t 23))), mv 21 24, sm 25 (.p (.extract 0 (.t 21))), sm 26 (.p (.extract 1 (.t 21))), mv 8 25, mv 9 26])
 (.seq (.seq (.reg [mv 27 9, sm 28 (.p (.un .not (.t 27)))])
 (.cond (.t 28) (.seq (.reg [sm 6 (.p (.mov (.c zu3))), sm 7 (.p (.mov (.c (.int .i64 1))))])
 .ret) .skip))
 (.seq (.reg [mv 29 8, mv 30 1, mv 31 2, sm 32 (.callv (.t 29) [(.t 30), (.t 31)]), mv 6 32, sm 7 (.p (.mov (.c zi6)))])
 .ret)))))
def rs168 : List AR := [.tmp 6, .tmp 7]
theorem ok168 : okF Tryz.prog 168 33 ac168 rs168 = true := by kernel_rfl
def ac169 : AC := (.seq (.reg [sm 0 (.h (.alloc [(.str .empty), zi6, (.str .empty), zi6, (.str .empty), zi6, (.str .empty), zi6, (.str .empty), zi6, (.str .empty), zi6, (.str .empty), zi6, (.str .empty), zi6, (.str .empty), zi6, (.str .empty), zi6, (.str .empty), zi6, (.str .empty), zi6, (.str .empty), zi6, (.str .empty), zi6, (.str .empty), zi6, (.str .empty), zi6, (.str .empty), zi6, (.str .empty), zi6, (.str .empty), zi6, (.str .empty), zi6, (.str .empty), zi6, (.str .empty), zi6, (.str .empty), zi6, (.str .empty), zi6, (.str .empty), zi6, (.str .empty), zi6, (.str .empty), zi6, (.str .empty), zi6, (.str .empty), zi6, (.str .empty), zi6, (.str .empty), zi6, (.str .empty), zi6, (.str .empty), zi6, (.str .empty), zi6, (.str .empty), zi6, (.str .empty), zi6, (.str .empty), zi6, (.str .empty), zi6, (.str .empty), zi6, (.str .empty), zi6, (.str .empty), zi6, (.str .empty), zi6, (.str .empty), zi6, (.str .empty), zi6, (.str .empty), zi6, (.str .empty), zi6, (.str .empty), zi6, (.str .empty), zi6, (.str .empty), zi6]))])
 (.seq (.reg [⟨some 1, .v (.build [(.str .empty), zi6] [(0, 1, (.c (.str ⟨#[97, 100, 100]⟩))), (1, 1, (.c (.int .i64 1)))]), none⟩, ⟨some 2, .v (.build [(.str .empty), zi6] [(0, 1, (.c (.str ⟨#[115, 117, 98]⟩))), (1, 1, (.c (.int .i64 1)))]), none⟩, ⟨some 3, .v (.build [(.str .empty), zi6] [(0, 1, (.c (.str ⟨#[97, 110, 100]⟩))), (1, 1, (.c (.int .i64 1)))]), none⟩, ⟨some 4, .v (.build [(.str .empty), zi6] [(0, 1, (.c (.str ⟨#[111, 114]⟩))), (1, 1, (.c (.int .i64 1)))]), none⟩, ⟨some 5, .v (.build [(.str .empty), zi6] [(0, 1, (.c (.str ⟨#[120, 111, 114]⟩))), (1, 1, (.c (.int .i64 1)))]), none⟩, ⟨some 6, .v (.build [(.str .empty), zi6] [(0, 1, (.c (.str ⟨#[115, 104, 108]⟩))), (1, 1, (.c (.int .i64 1)))]), none⟩, ⟨some 7, .v (.build [(.str .empty), zi6] [(0, 1, (.c (.str ⟨#[115, 104, 114]⟩))), (1, 1, (.c (.int .i64 1)))]), none⟩, ⟨some 8, .v (.build [(.str .empty), zi6] [(0, 1, (.c (.str ⟨#[109, 117, 108]⟩))), (1, 1, (.c (.int .i64 1)))]), none⟩, ⟨some 9, .v (.build [(.str .empty), zi6] [(0, 1, (.c (.str ⟨#[100, 105, 118]⟩))), (1, 1, (.c (.int .i64 1)))]), none⟩, ⟨some 10, .v (.build [(.str .empty), zi6] [(0, 1, (.c (.str ⟨#[114, 101, 109]⟩))), (1, 1, (.c (.int .i64 1)))]), none⟩, ⟨some 11, .v (.build [(.str .empty), zi6] [(0, 1, (.c (.str ⟨#[115, 108, 116]⟩))), (1, 1, (.c (.int .i64 1)))]), none⟩, ⟨some 12, .v (.build [(.str .empty), zi6] [(0, 1, (.c (.str ⟨#[115, 108, 116, 117]⟩))), (1, 1, (.c (.int .i64 1)))]), none⟩, ⟨some 13, .v (.build [(.str .empty), zi6] [(0, 1, (.c (.str ⟨#[97, 100, 100, 105]⟩))), (1, 1, (.c (.int .i64 2)))]), none⟩, ⟨some 14, .v (.build [(.str .empty), zi6] [(0, 1, (.c (.str ⟨#[104, 105, 103, 104]⟩))), (1, 1, (.c (.int .i64 3)))]), none⟩, ⟨some 15, .v (.build [(.str .empty), zi6] [(0, 1, (.c (.str ⟨#[108, 119]⟩))), (1, 1, (.c (.int .i64 2)))]), none⟩, ⟨some 16, .v (.build [(.str .empty), zi6] [(0, 1, (.c (.str ⟨#[115, 119]⟩))), (1, 1, (.c (.int .i64 2)))]), none⟩, ⟨some 17, .v (.build [(.str .empty), zi6] [(0, 1, (.c (.str ⟨#[108, 98]⟩))), (1, 1, (.c (.int .i64 2)))]), none⟩, ⟨some 18, .v (.build [(.str .empty), zi6] [(0, 1, (.c (.str ⟨#[115, 98]⟩))), (1, 1, (.c (.int .i64 2)))]), none⟩, ⟨some 19, .v (.build [(.str .empty), zi6] [(0, 1, (.c (.str ⟨#[115, 119, 97, 112]⟩))), (1, 1, (.c (.int .i64 2)))]), none⟩, ⟨some 20, .v (.build [(.str .empty), zi6] [(0, 1, (.c (.str ⟨#[98, 101, 113]⟩))), (1, 1, (.c (.int .i64 2)))]), none⟩, ⟨some 21, .v (.build [(.str .empty), zi6] [(0, 1, (.c (.str ⟨#[98, 110, 101]⟩))), (1, 1, (.c (.int .i64 2)))]), none⟩, ⟨some 22, .v (.build [(.str .empty), zi6] [(0, 1, (.c (.str ⟨#[98, 108, 116]⟩))), (1, 1, (.c (.int .i64 2)))]), none⟩, ⟨some 23, .v (.build [(.str .empty), zi6] [(0, 1, (.c (.str ⟨#[98, 108, 116, 117]⟩))), (1, 1, (.c (.int .i64 2)))]), none⟩, ⟨some 24, .v (.build [(.str .empty), zi6] [(0, 1, (.c (.str ⟨#[106, 97, 108]⟩))), (1, 1, (.c (.int .i64 3)))]), none⟩, ⟨some 25, .v (.build [(.str .empty), zi6] [(0, 1, (.c (.str ⟨#[106, 97, 108, 114]⟩))), (1, 1, (.c (.int .i64 2)))]), none⟩, ⟨some 26, .v (.build [(.str .empty), zi6] [(0, 1, (.c (.str ⟨#[101, 99, 97, 108, 108]⟩))), (1, 1, (.c (.int .i64 5)))]), none⟩, ⟨some 27, .v (.build [(.str .empty), zi6] [(0, 1, (.c (.str ⟨#[101, 114, 101, 116]⟩))), (1, 1, (.c (.int .i64 5)))]), none⟩, ⟨some 28, .v (.build [(.str .empty), zi6] [(0, 1, (.c (.str ⟨#[99, 115, 114, 114]⟩))), (1, 1, (.c (.int .i64 3)))]), none⟩, ⟨some 29, .v (.build [(.str .empty), zi6] [(0, 1, (.c (.str ⟨#[99, 115, 114, 119]⟩))), (1, 1, (.c (.int .i64 3)))]), none⟩, ⟨some 30, .v (.build [(.str .empty), zi6] [(0, 1, (.c (.str ⟨#[102, 108, 117, 115, 104]⟩))), (1, 1, (.c (.int .i64 4)))]), none⟩, ⟨some 31, .v (.build [(.str .empty), zi6] [(0, 1, (.c (.str ⟨#[119, 97, 105, 116]⟩))), (1, 1, (.c (.int .i64 5)))]), none⟩, ⟨some 32, .v (.build [(.str .empty), zi6] [(0, 1, (.c (.str ⟨#[105, 110]⟩))), (1, 1, (.c (.int .i64 3)))]), none⟩, ⟨some 33, .v (.build [(.str .empty), zi6] [(0, 1, (.c (.str ⟨#[111, 117, 116]⟩))), (1, 1, (.c (.int .i64 3)))]), none⟩, ⟨some 34, .v (.build [(.str .empty), zi6] [(0, 1, (.c (.str ⟨#[104, 97, 108, 116]⟩))), (1, 1, (.c (.int .i64 5)))]), none⟩, sm 35 (.v (.build [(.str .empty), zi6, (.str .empty), zi6, (.str .empty), zi6, (.str .empty), zi6, (.str .empty), zi6, (.str .empty), zi6, (.str .empty), zi6, (.str .empty), zi6, (.str .empty), zi6, (.str .empty), zi6, (.str .empty), zi6, (.str .empty), zi6, (.str .empty), zi6, (.str .empty), zi6, (.str .empty), zi6, (.str .empty), zi6, (.str .empty), zi6, (.str .empty), zi6, (.str .empty), zi6, (.str .empty), zi6, (.str .empty), zi6, (.str .empty), zi6, (.str .empty), zi6, (.str .empty), zi6, (.str .empty), zi6, (.str .empty), zi6, (.str .empty), zi6, (.str .empty), zi6, (.str .empty), zi6, (.str .empty), zi6, (.str .empty), zi6, (.str .empty), zi6, (.str .empty), zi6, (.str .empty), zi6, (.str .empty), zi6, (.str .empty), zi6, (.str .empty), zi6, (.str .empty), zi6, (.str .empty), zi6, (.str .empty), zi6, (.str .empty), zi6, (.str .empty), zi6, (.str .empty), zi6, (.str .empty), zi6, (.str .empty), zi6, (.str .empty), zi6, (.str .empty), zi6, (.str .empty), zi6, (.str .empty), zi6] [(2, 2, (.t 1)), (4, 2, (.t 2)), (6, 2, (.t 3)), (8, 2, (.t 4)), (10, 2, (.t 5)), (12, 2, (.t 6)), (14, 2, (.t 7)), (16, 2, (.t 8)), (18, 2, (.t 9)), (20, 2, (.t 10)), (22, 2, (.t 11)), (24, 2, (.t 12)), (32, 2, (.t 13)), (34, 2, (.t 14)), (40, 2, (.t 15)), (42, 2, (.t 16)), (44, 2, (.t 17)), (46, 2, (.t 18)), (48, 2, (.t 19)), (56, 2, (.t 20)), (58, 2, (.t 21)), (60, 2, (.t 22)), (62, 2, (.t 23)), (64, 2, (.t 24)), (66, 2, (.t 25)), (80, 2, (.t 26)), (82, 2, (.t 27)), (84, 2, (.t 28)), (86, 2, (.t 29)), (88, 2, (.t 30)), (90, 2, (.t 31)), (92, 2, (.t 32)), (94, 2, (.t 33)), (96, 2, (.t 34))])), st 98 0 35])
 .ret))
def rs169 : List AR := [.cell 0 true 98]
theorem ok169 : okF Tryz.prog 169 36 ac169 rs169 = true := by kernel_rfl
def ac170 : AC := (.seq (.reg [sm 2 (.p (.mov (.c (.bool false))))])
 (.seq (.reg [mv 3 0, sm 4 (.p (.bin .geq (.t 3) (.c zi6))), mv 5 4, ⟨some 6, .p (.mov (.t 0)), (some (5, true))⟩, ⟨some 7, .p (.bin .lss (.t 6) (.c (.int .i64 16))), (some (5, true))⟩, sm 8 (.p (.pick (.t 5) (.t 7) (.c (.bool false)))), mv 2 8])
 .ret))
def rs170 : List AR := [.tmp 2]
theorem ok170 : okF Tryz.prog 170 9 ac170 rs170 = true := by kernel_rfl
def acA171 : AC := (.reg [sm 5 (.h (.box (.t 0))), sm 8 (.h (.box (.t 3))), sm 10 (.h (.alloc [zi6, zi6, .nils, .nils])), sm 11 (.h (.alloc [zi6]))])
def qs171 : List AO := [sm 17 (.p (.mkfn 177 [(.t 10), (.t 8), (.t 11)]))]
def acB171 : AC := (.seq (.seq (.reg [mv 18 1, sm 19 (.p (.binw .eql (.t 18) (.c zu3)))])
 (.cond (.t 19) (.seq (.reg [mv 20 2, sm 21 (.p (.conv .i64 (.t 20))), la 22 1 5, sm 23 (.call 69 [(.t 22)]), sm 24 (.p (.bin .lss (.t 21) (.t 23))), sm 25 (.callx 178 [(.t 24)])])
 (.seq (.reg [mv 26 2, sm 27 (.p (.conv .i64 (.t 26))), sm 28 (.v (.build [zi6, zi6, .nils, .nils] [(0, 1, (.t 27)), (1, 1, (.c (.int .i64 (-1))))])), st 4 10 28, ⟨none, .h (.store 1 (.t 11) (.c zi6)), none⟩])
 .ret)) .skip))
 (.seq (.reg [mv 29 2, sm 30 (.p (.binw .lss (.t 29) (.c (.int .u32 131072)))), mv 31 30, ⟨some 32, .h (.load true 1 (.t 5)), (some (31, true))⟩, ⟨some 33, .p (.mov (.t 1)), (some (31, true))⟩, ⟨some 34, .call 179 [(.t 32), (.t 33)], (some (31, true))⟩, sm 35 (.p (.pick (.t 31) (.t 34) (.c (.bool false)))), sm 36 (.callx 178 [(.t 35)])])
 (.seq (.reg [mv 37 1, mv 38 2, sm 39 (.p (.binw .shr (.t 38) (.c (.int .u64 12)))), sm 40 (.p (.binw .mul (.c (.int .u32 4)) (.t 39))), sm 41 (.p (.binw .add (.t 37) (.t 40))), mv 12 41])
 (.seq (.reg [la 42 1 5, mv 43 12, sm 44 (.call 180 [(.t 42), (.t 43)]), mv 13 44])
 (.seq (.reg [mv 45 12, sm 46 (.p (.conv .i64 (.t 45))), sm 47 (.d (.bslice 1 1 [zi6] [(0, (.t 46))])), fa 48 3 10, st 1 48 47])
 (.seq (.reg [mv 49 13, sm 50 (.call 181 [(.t 49), (.c (.int .u32 1))]), mv 51 50, ⟨some 52, .p (.mov (.t 13)), (some (51, true))⟩, ⟨some 53, .h (.load true 1 (.t 5)), (some (51, true))⟩, ⟨some 54, .call 182 [(.t 52), (.t 53)], (some (51, true))⟩, sm 55 (.p (.pick (.t 51) (.t 54) (.c (.bool false)))), sm 56 (.callx 178 [(.t 55)])])
 (.seq (.reg [mv 57 13, sm 58 (.call 183 [(.t 57)]), mv 59 2, sm 60 (.p (.binw .shr (.t 59) (.c (.int .u64 7)))), sm 61 (.p (.binw .rem (.t 60) (.c (.int .u32 32)))), sm 62 (.p (.binw .mul (.t 61) (.c (.int .u32 128)))), sm 63 (.p (.binw .add (.t 58) (.t 62))), mv 14 63])
 (.seq (.seq (.reg [mv 64 13, sm 65 (.call 181 [(.t 64), (.c (.int .u32 64))]), sm 66 (.p (.un .not (.t 65)))])
 (.cond (.t 66) (.seq (.reg [mv 67 13, sm 68 (.call 183 [(.t 67)]), mv 69 2, sm 70 (.p (.binw .shr (.t 69) (.c (.int .u64 7)))), sm 71 (.p (.binw .rem (.t 70) (.c (.int .u32 32)))), sm 72 (.p (.binw .mul (.t 71) (.c (.int .u32 4)))), sm 73 (.p (.binw .add (.t 68) (.t 72))), mv 12 73])
 (.seq (.reg [la 74 1 5, mv 75 12, sm 76 (.call 180 [(.t 74), (.t 75)]), mv 13 76])
 (.seq (.reg [fa 77 3 10, ld 78 77, mv 79 12, sm 80 (.p (.conv .i64 (.t 79))), sm 81 (.d (.bslice 1 1 [zi6] [(0, (.t 80))])), sm 82 (.l (.append 1 8 (.t 78) (.t 81))), fa 83 3 10, st 1 83 82])
 (.seq (.reg [mv 84 13, sm 85 (.call 181 [(.t 84), (.c (.int .u32 1))]), mv 86 85, ⟨some 87, .p (.mov (.t 13)), (some (86, true))⟩, ⟨some 88, .call 181 [(.t 87), (.c (.int .u32 64))], (some (86, true))⟩, ⟨some 89, .p (.un .not (.t 88)), (some (86, true))⟩, sm 90 (.p (.pick (.t 86) (.t 89) (.c (.bool false)))), sm 91 (.callx 178 [(.t 90)])])
 (.reg [mv 92 13, sm 93 (.call 183 [(.t 92)]), mv 14 93]))))) .skip))
 (.seq (.reg [la 94 1 5, mv 95 14, sm 96 (.call 179 [(.t 94), (.t 95)]), sm 97 (.callx 178 [(.t 96)])])
 (.seq (.reg [ld 98 8, sm 99 (.p (.bin .eql (.t 98) (.c (.int .i64 2)))), mv 100 99, ⟨some 101, .h (.load false 1 (.t 8)), (some (100, false))⟩, ⟨some 102, .p (.bin .eql (.t 101) (.c (.int .i64 3))), (some (100, false))⟩, sm 103 (.p (.pick (.t 100) (.c (.bool true)) (.t 102))), mv 15 103])
 (.seq (.reg [mv 104 15, sm 105 (.p (.un .not (.t 104))), mv 106 105, ⟨some 107, .p (.mov (.t 13)), (some (106, false))⟩, ⟨some 108, .call 181 [(.t 107), (.c (.int .u32 2))], (some (106, false))⟩, sm 109 (.p (.pick (.t 106) (.c (.bool true)) (.t 108))), sm 110 (.callx 178 [(.t 109)])])
 (.seq (.reg [ld 111 8, sm 112 (.p (.bin .neq (.t 111) (.c (.int .i64 4)))), mv 113 112, ⟨some 114, .p (.mov (.t 13)), (some (113, false))⟩, ⟨some 115, .call 181 [(.t 114), (.c (.int .u32 8))], (some (113, false))⟩, sm 116 (.p (.pick (.t 113) (.c (.bool true)) (.t 115))), sm 117 (.callx 178 [(.t 116)])])
 (.seq (.reg [mv 118 4, sm 119 (.p (.un .not (.t 118))), mv 120 119, ⟨some 121, .p (.mov (.t 13)), (some (120, false))⟩, ⟨some 122, .call 181 [(.t 121), (.c (.int .u32 4))], (some (120, false))⟩, sm 123 (.p (.pick (.t 120) (.c (.bool true)) (.t 122))), sm 124 (.callx 178 [(.t 123)])])
 (.seq (.reg [mv 125 14, mv 126 2, sm 127 (.p (.binw .rem (.t 126) (.c (.int .u32 128)))), sm 128 (.p (.binw .add (.t 125) (.t 127))), sm 129 (.p (.conv .i64 (.t 128))), mv 130 12, sm 131 (.p (.conv .i64 (.t 130))), fa 132 0 10, st 1 132 129, fa 133 1 10, st 1 133 131])
 (.seq (.reg [mv 134 13, sm 135 (.p (.binw .or (.t 134) (.c (.int .u32 16)))), mv 16 135])
 (.seq (.seq (.reg [mv 136 15])
 (.cond (.t 136) (.reg [mv 137 16, sm 138 (.p (.binw .or (.t 137) (.c (.int .u32 32)))), mv 16 138]) .skip))
 (.seq (.seq (.reg [mv 139 16, mv 140 13, sm 141 (.p (.binw .neq (.t 139) (.t 140)))])
 (.cond (.t 141) (.reg [mv 142 12, sm 143 (.p (.conv .i64 (.t 142))), mv 144 16, sm 145 (.v (.build [zi6, zi6, zu3] [(0, 1, (.t 143)), (1, 1, (.c (.int .i64 4))), (2, 1, (.t 144))])), sm 146 (.d (.bslice 3 1 [zi6, zi6, zu3] [(0, (.t 145))])), fa 147 2 10, st 1 147 146]) .skip))
 (.seq (.reg [la 148 4 10, st 4 10 148, ⟨none, .h (.store 1 (.t 11) (.c zi6)), none⟩])
 .ret))))))))))))))))))
def rs171 : List AR := [.cell 10 true 4, .cell 11 false 1]
theorem ok171 : okFX Tryz.prog 171 149 acA171 qs171 17 acB171 rs171 = true := by kernel_rfl
def ac172 : AC := (.seq (.reg [sm 6 (.p (.mov (.c (.bool false))))])
 (.seq (.seq (.reg [mv 7 0])
 (.block 0 (.seq (.reg [sm 9 (.p (.bin .eql (.t 7) (.c (.int .i64 28)))), mv 8 9])
 (.cond (.t 8) (.seq (.reg [mv 10 1, mv 11 2, sm 12 (.p (.binw .eql (.t 10) (.t 11))), mv 6 12])
 .ret) (.seq (.reg [sm 14 (.p (.bin .eql (.t 7) (.c (.int .i64 29)))), mv 13 14])
 (.cond (.t 13) (.seq (.reg [mv 15 1, mv 16 2, sm 17 (.p (.binw .neq (.t 15) (.t 16))), mv 6 17])
 .ret) (.seq (.reg [sm 19 (.p (.bin .eql (.t 7) (.c (.int .i64 30)))), mv 18 19])
 (.cond (.t 18) (.seq (.reg [mv 20 1, sm 21 (.p (.convw .i32 (.t 20))), mv 22 2, sm 23 (.p (.convw .i32 (.t 22))), sm 24 (.call 184 [(.t 21), (.t 23)]), sm 25 (.p (.binw .eql (.t 24) (.c (.int .u32 1)))), mv 6 25])
 .ret) (.seq (.reg [sm 27 (.p (.bin .eql (.t 7) (.c (.int .i64 31)))), mv 26 27])
 (.cond (.t 26) (.seq (.reg [mv 28 1, mv 29 2, sm 30 (.call 185 [(.t 28), (.t 29)]), sm 31 (.p (.binw .eql (.t 30) (.c (.int .u32 1)))), mv 6 31])
 .ret) .skip))))))))))
 (.seq (.reg [sm 6 (.p (.mov (.c (.bool false))))])
 .ret)))
def rs172 : List AR := [.tmp 6]
theorem ok172 : okF Tryz.prog 172 32 ac172 rs172 = true := by kernel_rfl
def ac173 : AC := (.seq (.reg [sm 3 (.h (.box (.t 1))), sm 4 (.p (.mov (.c zu3))), sm 5 (.p (.mov (.c (.bool false))))])
 (.seq (.seq (.reg [fa 6 0 3, ld 7 6, sm 8 (.call 186 [(.t 7)]), sm 9 (.p (.un .not (.t 8))), mv 10 9, ⟨some 11, .p (.fieldA 0 (.t 3)), (some (10, true))⟩, ⟨some 12, .h (.load false 1 (.t 11)), (some (10, true))⟩, ⟨some 13, .p (.bin .neq (.t 12) (.c (.int .i64 32))), (some (10, true))⟩, sm 14 (.p (.pick (.t 10) (.t 13) (.c (.bool false))))])
 (.cond (.t 14) (.seq (.reg [sm 4 (.p (.mov (.c zu3))), sm 5 (.p (.mov (.c (.bool false))))])
 .ret) .skip))
 (.seq (.reg [mv 15 0, fa 16 4 3, ld 17 16, sm 18 (.p (.convw .u32 (.t 17))), sm 19 (.p (.binw .shl (.t 18) (.c (.int .u64 2)))), sm 20 (.p (.binw .add (.t 15) (.t 19))), mv 4 20, sm 5 (.p (.mov (.c (.bool true))))])
 .ret)))
def rs173 : List AR := [.tmp 4, .tmp 5]
theorem ok173 : okF Tryz.prog 173 21 ac173 rs173 = true := by kernel_rfl
def ac174 : AC := (.seq (.reg [sm 3 (.h (.box (.t 0))), sm 6 (.p (.mov (.c zu3))), sm 7 (.p (.mov (.c zi6)))])
 (.seq (.block 0 (.seq (.reg [mv 9 1, sm 10 (.p (.bin .lss (.t 9) (.c zi6))), mv 11 10, ⟨some 12, .p (.mov (.t 1)), (some (11, false))⟩, ⟨some 13, .p (.bin .geq (.t 12) (.c (.int .i64 9))), (some (11, false))⟩, sm 14 (.p (.pick (.t 11) (.c (.bool true)) (.t 13))), mv 8 14])
 (.cond (.t 8) (.seq (.reg [sm 6 (.p (.mov (.c zu3))), sm 7 (.p (.mov (.c (.int .i64 1))))])
 .ret) (.seq (.reg [mv 16 1, sm 17 (.p (.bin .eql (.t 16) (.c (.int .i64 7)))), mv 15 17])
 (.cond (.t 15) (.seq (.reg [mv 18 2, sm 19 (.call 140 [(.t 18)]), mv 6 19, sm 7 (.p (.mov (.c zi6)))])
 .ret) .skip)))))
 (.seq (.reg [mv 20 1, fa 21 17 3, sm 22 (.p (.idxA 1 (some 9) (.t 21) (.t 20))), ld 23 22, mv 6 23, sm 7 (.p (.mov (.c zi6)))])
 .ret)))
def rs174 : List AR := [.tmp 6, .tmp 7]
theorem ok174 : okF Tryz.prog 174 24 ac174 rs174 = true := by kernel_rfl
def ac175 : AC := (.seq (.reg [sm 3 (.h (.box (.t 0))), sm 6 (.h (.alloc [zu3, zu3, zu3, zu3, zu3, zu3, zu3, zu3, zu3, zu3, zu3, zu3, zu3, zu3, zu3, zu3, zu3, zu3, zu3, zu3, zu3, zu3, zu3, zu3, zu3, zu3, (.bool false), (.bool false), (.bool false), zi6])), sm 7 (.p (.mov (.c zi6)))])
 (.seq (.block 0 (.seq (.reg [mv 9 1, sm 10 (.p (.bin .lss (.t 9) (.c zi6))), mv 11 10, ⟨some 12, .p (.mov (.t 1)), (some (11, false))⟩, ⟨some 13, .p (.bin .geq (.t 12) (.c (.int .i64 7))), (some (11, false))⟩, sm 14 (.p (.pick (.t 11) (.c (.bool true)) (.t 13))), mv 8 14])
 (.cond (.t 8) (.seq (.reg [la 15 30 3, st 30 6 15, sm 7 (.p (.mov (.c (.int .i64 1))))])
 .ret) (.seq (.reg [mv 17 1, sm 18 (.p (.bin .eql (.t 17) (.c (.int .i64 5)))), mv 16 18])
 (.cond (.t 16) (.reg [mv 19 2, sm 20 (.p (.binw .and (.t 19) (.c (.int .u32 7)))), mv 2 20]) .skip)))))
 (.seq (.reg [mv 21 1, mv 22 2, fa 23 17 3, sm 24 (.p (.idxA 1 (some 9) (.t 23) (.t 21))), st 1 24 22])
 (.seq (.reg [la 25 30 3, st 30 6 25, sm 7 (.p (.mov (.c zi6)))])
 .ret))))
def rs175 : List AR := [.cell 6 true 30, .tmp 7]
theorem ok175 : okF Tryz.prog 175 26 ac175 rs175 = true := by kernel_rfl
def ac176 : AC := (.seq (.reg [sm 0 (.p (.mov (.c .nilm)))])
 (.seq (.reg [sm 1 (.m .mk), ⟨none, .m (.set (.c (.i .i64)) (.t 1) (.c (.int .i64 1)) (.c (.func 187 []))), none⟩, ⟨none, .m (.set (.c (.i .i64)) (.t 1) (.c (.int .i64 2)) (.c (.func 188 []))), none⟩, ⟨none, .m (.set (.c (.i .i64)) (.t 1) (.c (.int .i64 3)) (.c (.func 189 []))), none⟩, ⟨none, .m (.set (.c (.i .i64)) (.t 1) (.c (.int .i64 4)) (.c (.func 190 []))), none⟩, ⟨none, .m (.set (.c (.i .i64)) (.t 1) (.c (.int .i64 5)) (.c (.func 191 []))), none⟩, ⟨none, .m (.set (.c (.i .i64)) (.t 1) (.c (.int .i64 6)) (.c (.func 192 []))), none⟩, ⟨none, .m (.set (.c (.i .i64)) (.t 1) (.c (.int .i64 7)) (.c (.func 193 []))), none⟩, ⟨none, .m (.set (.c (.i .i64)) (.t 1) (.c (.int .i64 8)) (.c (.func 194 []))), none⟩, ⟨none, .m (.set (.c (.i .i64)) (.t 1) (.c (.int .i64 9)) (.c (.func 195 []))), none⟩, ⟨none, .m (.set (.c (.i .i64)) (.t 1) (.c (.int .i64 10)) (.c (.func 196 []))), none⟩, ⟨none, .m (.set (.c (.i .i64)) (.t 1) (.c (.int .i64 11)) (.c (.func 197 []))), none⟩, ⟨none, .m (.set (.c (.i .i64)) (.t 1) (.c (.int .i64 12)) (.c (.func 198 []))), none⟩, mv 2 1, mv 0 2])
 .ret))
def rs176 : List AR := [.tmp 0]
theorem ok176 : okF Tryz.prog 176 3 ac176 rs176 = true := by kernel_rfl
def ac177 : AC := (.block 0 (.seq (.reg [sm 8 (.v (.isni false (.t 6)))])
 (.cond (.t 8) (.reg [mv 3 6]) (.seq (.reg [sm 9 (.v (.tas 366 (.agg []) (.t 6))), sm 10 (.p (.extract 1 (.t 9))), sm 11 (.p (.extract 0 (.t 9)))])
 (.cond (.t 10) (.seq (.reg [sm 4 (.h (.alloc [])), st 0 4 11])
 (.draw 8 [(1, 6), (4, 6), (6, 7), (1, 7), (4, 7)] [fa 12 3 0, ld 13 12, sm 14 (.v (.build [zi6, zi6, .nils, .nils] [(3, 1, (.t 13))])), sm 15 (.v (.build [zi6, zi6, zi6, zi6, zi6] [(0, 1, (.c zi6)), (1, 1, (.c (.int .i64 5))), (2, 1, (.c (.int .i64 6))), (3, 1, (.c (.int .i64 6))), (4, 1, (.c (.int .i64 4)))])), ld 16 1, sm 17 (.v (.idx false 1 5 (.t 15) (.t 16))), st 4 0 14, st 1 2 17])) (.seq (.reg [mv 5 6])
 (.reg [mv 7 5, ⟨none, .pan (.t 7), none⟩])))))))
theorem ok177 : okFD Tryz.prog 177 18 6 ac177 = true := by kernel_rfl
def ac178 : AC := (.seq (.reg [mv 2 0, sm 3 (.p (.un .not (.t 2)))])
 (.cond (.t 3) (.reg [sm 4 (.v (.build [] [])), sm 5 (.v (.mkI 366 (.t 4))), ⟨none, .pan (.t 5), none⟩]) .skip))
def rs178 : List AR := []
theorem ok178 : okF Tryz.prog 178 6 ac178 rs178 = true := by kernel_rfl
def ac179 : AC := (.seq (.reg [sm 2 (.h (.box (.t 0))), sm 4 (.p (.mov (.c (.bool false))))])
 (.seq (.reg [mv 5 1, sm 6 (.p (.binw .rem (.t 5) (.c (.int .u32 128)))), sm 7 (.p (.binw .eql (.t 6) (.c zu3))), mv 8 7, ⟨some 9, .p (.mov (.t 1)), (some (8, true))⟩, ⟨some 10, .p (.conv .i64 (.t 9)), (some (8, true))⟩, ⟨some 11, .h (.load true 1 (.t 2)), (some (8, true))⟩, ⟨some 12, .call 69 [(.t 11)], (some (8, true))⟩, ⟨some 13, .p (.bin .lss (.t 10) (.t 12)), (some (8, true))⟩, sm 14 (.p (.pick (.t 8) (.t 13) (.c (.bool false)))), mv 4 14])
 .ret))
def rs179 : List AR := [.tmp 4]
theorem ok179 : okF Tryz.prog 179 15 ac179 rs179 = true := by kernel_rfl
def ac180 : AC := (.seq (.reg [sm 2 (.h (.box (.t 0))), sm 4 (.p (.mov (.c zu3)))])
 (.seq (.reg [la 8 1 2, mv 9 1, sm 10 (.p (.conv .i64 (.t 9))), sm 11 (.call 155 [(.t 8), (.t 10), (.c (.int .i64 4))]), mv 7 11, sm 12 (.p (.extract 0 (.t 7))), sm 13 (.p (.extract 1 (.t 7))), mv 5 12, mv 6 13])
 (.seq (.reg [mv 14 5, mv 4 14])
 .ret)))
def rs180 : List AR := [.tmp 4]
theorem ok180 : okF Tryz.prog 180 15 ac180 rs180 = true := by kernel_rfl
def ac181 : AC := (.seq (.reg [sm 4 (.p (.mov (.c (.bool false))))])
 (.seq (.reg [mv 5 0, mv 6 1, sm 7 (.p (.binw .and (.t 5) (.t 6))), mv 8 1, sm 9 (.p (.binw .eql (.t 7) (.t 8))), mv 4 9])
 .ret))
def rs181 : List AR := [.tmp 4]
theorem ok181 : okF Tryz.prog 181 10 ac181 rs181 = true := by kernel_rfl
def ac182 : AC := (.seq (.reg [sm 3 (.h (.box (.t 1))), sm 4 (.p (.mov (.c (.bool false))))])
 (.seq (.seq (.reg [mv 5 0, sm 6 (.call 181 [(.t 5), (.c (.int .u32 64))])])
 (.cond (.t 6) (.seq (.reg [mv 7 0, sm 8 (.call 183 [(.t 7)]), sm 9 (.p (.binw .rem (.t 8) (.c (.int .u32 4096)))), sm 10 (.p (.binw .eql (.t 9) (.c zu3))), mv 4 10])
 .ret) .skip))
 (.seq (.draw 10 [] [mv 11 0, sm 12 (.p (.binw .and (.t 11) (.c (.int .u32 62)))), sm 13 (.p (.binw .eql (.t 12) (.c zu3))), mv 14 13, ⟨some 15, .h (.load true 1 (.t 3)), (some (14, true))⟩, ⟨some 16, .p (.mov (.t 0)), (some (14, true))⟩, ⟨some 17, .call 183 [(.t 16)], (some (14, true))⟩, ⟨some 18, .call 179 [(.t 15), (.t 17)], (some (14, true))⟩, sm 19 (.p (.pick (.t 14) (.t 18) (.c (.bool false)))), mv 4 19])
 .ret)))
def rs182 : List AR := [.tmp 4]
theorem ok182 : okF Tryz.prog 182 20 ac182 rs182 = true := by kernel_rfl
def ac183 : AC := (.seq (.reg [sm 2 (.p (.mov (.c zu3)))])
 (.seq (.reg [mv 3 0, sm 4 (.p (.binw .andNot (.t 3) (.c (.int .u32 127)))), mv 2 4])
 .ret))
def rs183 : List AR := [.tmp 2]
theorem ok183 : okF Tryz.prog 183 5 ac183 rs183 = true := by kernel_rfl
def ac184 : AC := (.seq (.reg [sm 4 (.p (.mov (.c zu3)))])
 (.seq (.seq (.reg [mv 5 0, mv 6 1, sm 7 (.p (.binw .lss (.t 5) (.t 6)))])
 (.cond (.t 7) (.seq (.reg [sm 4 (.p (.mov (.c (.int .u32 1))))])
 .ret) .skip))
 (.seq (.reg [sm 4 (.p (.mov (.c zu3)))])
 .ret)))
def rs184 : List AR := [.tmp 4]
theorem ok184 : okF Tryz.prog 184 8 ac184 rs184 = true := by kernel_rfl
def ac185 : AC := (.seq (.reg [sm 4 (.p (.mov (.c zu3)))])
 (.seq (.seq (.reg [mv 5 0, mv 6 1, sm 7 (.p (.binw .lss (.t 5) (.t 6)))])
 (.cond (.t 7) (.seq (.reg [sm 4 (.p (.mov (.c (.int .u32 1))))])
 .ret) .skip))
 (.seq (.reg [sm 4 (.p (.mov (.c zu3)))])
 .ret)))
def rs185 : List AR := [.tmp 4]
theorem ok185 : okF Tryz.prog 185 8 ac185 rs185 = true := by kernel_rfl
def ac186 : AC := (.seq (.reg [sm 2 (.p (.mov (.c (.bool false))))])
 (.seq (.reg [mv 3 0, sm 4 (.p (.bin .geq (.t 3) (.c (.int .i64 28)))), mv 5 4, ⟨some 6, .p (.mov (.t 0)), (some (5, true))⟩, ⟨some 7, .p (.bin .leq (.t 6) (.c (.int .i64 31))), (some (5, true))⟩, sm 8 (.p (.pick (.t 5) (.t 7) (.c (.bool false)))), mv 2 8])
 .ret))
def rs186 : List AR := [.tmp 2]
theorem ok186 : okF Tryz.prog 186 9 ac186 rs186 = true := by kernel_rfl
end Go.Proofs

