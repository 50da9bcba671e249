/- Part of a proof about the given program: lemmas that the other parts use. -/
import Derived.Test.YtngmlbaiboinnaaGreatDoorPart3
import Derived.Test.YtngmlbaiboinnaaGreatDoorProg
import Derived.KernelRfl

set_option linter.all false
set_option linter.unusedSimpArgs false
set_option linter.unusedVariables false
set_option maxRecDepth 100000
namespace Go.Proofs
open Go Go.Eng
def ac21 : AC := (.seq (.reg [sm 3 (.h (.box (.t 0))), sm 4 (.h (.box (.t 1))), sm 6 (.p (.mov (.c zi6)))])
 (.seq (.seq (.reg [la 11 4 3, sm 12 (.call 41 [(.t 11)]), mv 7 12])
 (.seq (.reg [mv 13 7, sm 14 (.p (.bin .neq (.t 13) (.c zi6)))])
 (.cond (.t 14) (.seq (.reg [mv 15 7, mv 6 15])
 .ret) .skip)))
 (.seq (.seq (.reg [fa 16 0 4, la 17 19 16, sm 18 (.call 42 [(.t 17)]), mv 8 18])
 (.seq (.reg [mv 19 8, sm 20 (.p (.bin .neq (.t 19) (.c zi6)))])
 (.cond (.t 20) (.seq (.reg [mv 21 8, mv 6 21])
 .ret) .skip)))
 (.seq (.seq (.draw 6 [] [fa 22 0 4, fa 23 0 22, la 24 16 23, la 25 4 3, sm 26 (.call 17 [(.t 25)]), sm 27 (.v (.eqa true [(.i .u8), (.i .u8), (.i .u8), (.i .u8), (.i .u8), (.i .u8), (.i .u8), (.i .u8), (.i .u8), (.i .u8), (.i .u8), (.i .u8), (.i .u8), (.i .u8), (.i .u8), (.i .u8)] (.t 24) (.t 26)))])
 (.cond (.t 27) (.seq (.reg [sm 6 (.p (.mov (.c (.int .i64 8))))])
 .ret) .skip))
 (.seq (.seq (.reg [fa 29 0 4, la 30 19 29, mv 31 2, sm 32 (.call 48 [(.t 30), (.t 31)]), mv 28 32, sm 33 (.p (.extract 0 (.t 28))), sm 34 (.p (.extract 1 (.t 28))), mv 9 33, mv 10 34])
 (.seq (.reg [mv 35 10, sm 36 (.p (.bin .neq (.t 35) (.c zi6)))])
 (.cond (.t 36) (.seq (.reg [sm 6 (.p (.mov (.c (.int .i64 8))))])
 .ret) .skip)))
 (.seq (.seq (.reg [la 37 22 4, sm 38 (.call 49 [(.t 37)]), sm 39 (.p (.un .not (.t 38)))])
 (.cond (.t 39) (.seq (.reg [sm 6 (.p (.mov (.c (.int .i64 3))))])
 .ret) .skip))
 (.seq (.reg [sm 6 (.p (.mov (.c zi6)))])
 .ret)))))))
def rs21 : List AR := [.tmp 6]
theorem ok21 : okF Tryz.prog 21 40 ac21 rs21 = true := by kernel_rfl
def rfA220 : AC := (.reg [mv 7 21])
def rfB220 : AC := (.block 1 (.seq (.draw 15 [(11, 13), (7, 13), (0, 13), (2, 13), (3, 13), (5, 13), (6, 13), (12, 13), (12, 14), (13, 14), (0, 14), (2, 14), (3, 14), (5, 14), (6, 14), (7, 14), (11, 14)] [la 24 22 3, mv 25 7, la 26 4 2, la 27 22 3, mv 28 7, sm 29 (.call 51 [(.t 26), (.t 27), (.t 28)]), la 30 47 5, sm 31 (.call 50 [(.t 24), (.t 25), (.t 29), (.t 30)]), mv 23 31, sm 32 (.p (.extract 0 (.t 23))), sm 33 (.p (.extract 1 (.t 23))), sm 8 (.h (.alloc [.nils, .nils, zi6, zu3, zu3, zu3, zu3, zu3, zu3, zu3, zu3, zi6, zi6, zi6, zi6, zi6, zi6, (.bool false), (.bool false), (.bool false), (.bool false), zi6, zi6, zi6, zi6, zi6, zi6, zi6, zi6, (.str .empty), zi6, zu3, zu3, zi6, zi6, .nils, .nils, zu3, zu3, zu3, zu3, zi6, zi6, zi6, zi6, .nils, zi6])), sm 9 (.h (.alloc [zi6, zi6])), st 47 8 32, st 2 9 33])
 (.seq (.seq (.reg [fa 34 0 9, ld 35 34, sm 36 (.p (.bin .neq (.t 35) (.c (.int .i64 1))))])
 (.cond (.t 36) (.seq (.reg [la 37 2 9, st 2 4 37])
 .ret) .skip))
 (.reg [la 38 47 8, st 47 5 38]))))
def ac22 : AC := (.seq (.reg [sm 2 (.h (.box (.t 0))), sm 3 (.h (.box (.t 1))), sm 4 (.h (.alloc [zi6, zi6]))])
 (.seq (.reg [la 11 4 2, fa 12 0 3, fa 13 16 12, ld 14 13, sm 15 (.call 25 [(.t 11), (.t 14)]), mv 10 15, sm 16 (.p (.extract 0 (.t 10))), sm 17 (.p (.extract 1 (.t 10))), sm 5 (.h (.alloc [.nils, .nils, zi6, zu3, zu3, zu3, zu3, zu3, zu3, zu3, zu3, zi6, zi6, zi6, zi6, zi6, zi6, (.bool false), (.bool false), (.bool false), (.bool false), zi6, zi6, zi6, zi6, zi6, zi6, zi6, zi6, (.str .empty), zi6, zu3, zu3, zi6, zi6, .nils, .nils, zu3, zu3, zu3, zu3, zi6, zi6, zi6, zi6, .nils, zi6])), st 47 5 16, mv 6 17])
 (.seq (.seq (.reg [fa 18 0 3, la 19 19 18, sm 20 (.call 44 [(.t 19)])])
 (.block 0 (.rangeF 220 (.t 20) [2, 3, 4, 5] [21, 22] rfA220 rfB220)))
 (.seq (.reg [fa 39 0 3, fa 40 18 39, ld 41 40, sm 42 (.p (.len false (.t 41))), sm 43 (.v (.build [zi6, zi6] [(0, 1, (.c (.int .i64 1))), (1, 1, (.t 42))])), st 2 4 43])
 .ret))))
def rs22 : List AR := [.cell 4 true 2]
theorem ok22 : okF Tryz.prog 22 44 ac22 rs22 = true := by kernel_rfl
def ac23 : AC := (.seq (.reg [sm 3 (.h (.box (.t 0))), sm 4 (.h (.box (.t 1))), sm 6 (.h (.alloc [.nils, .nils, zi6, zu3, zu3, zu3, zu3, zu3, zu3, zu3, zu3, zi6, zi6, zi6, zi6, zi6, zi6, (.bool false), (.bool false), (.bool false), (.bool false), zi6, zi6, zi6, zi6, zi6, zi6, zi6, zi6, (.str .empty), zi6, zu3, zu3, zi6, zi6, .nils, .nils, zu3, zu3, zu3, zu3, zi6, zi6, zi6, zi6, .nils, zi6])), sm 7 (.p (.mov (.c zi6)))])
 (.seq (.reg [fa 13 0 4, la 14 19 13, mv 15 2, sm 16 (.call 52 [(.t 14), (.t 15)]), mv 12 16, sm 17 (.p (.extract 0 (.t 12))), sm 18 (.p (.extract 1 (.t 12))), sm 8 (.h (.alloc [zi6, zi6])), st 2 8 17, mv 9 18])
 (.seq (.seq (.reg [mv 19 9, sm 20 (.p (.un .not (.t 19)))])
 (.cond (.t 20) (.seq (.reg [sm 21 (.v (.build [.nils, .nils, zi6, zu3, zu3, zu3, zu3, zu3, zu3, zu3, zu3, zi6, zi6, zi6, zi6, zi6, zi6, (.bool false), (.bool false), (.bool false), (.bool false), zi6, zi6, zi6, zi6, zi6, zi6, zi6, zi6, (.str .empty), zi6, zu3, zu3, zi6, zi6, .nils, .nils, zu3, zu3, zu3, zu3, zi6, zi6, zi6, zi6, .nils, zi6] [])), st 47 6 21, sm 7 (.p (.mov (.c (.int .i64 1))))])
 .ret) .skip))
 (.seq (.reg [la 23 4 3, fa 24 0 4, fa 25 16 24, ld 26 25, sm 27 (.call 25 [(.t 23), (.t 26)]), mv 22 27, sm 28 (.p (.extract 0 (.t 22))), sm 29 (.p (.extract 1 (.t 22))), sm 10 (.h (.alloc [.nils, .nils, zi6, zu3, zu3, zu3, zu3, zu3, zu3, zu3, zu3, zi6, zi6, zi6, zi6, zi6, zi6, (.bool false), (.bool false), (.bool false), (.bool false), zi6, zi6, zi6, zi6, zi6, zi6, zi6, zi6, (.str .empty), zi6, zu3, zu3, zi6, zi6, .nils, .nils, zu3, zu3, zu3, zu3, zi6, zi6, zi6, zi6, .nils, zi6])), st 47 10 28, mv 11 29])
 (.seq (.seq (.reg [mv 30 11, sm 31 (.p (.bin .neq (.t 30) (.c zi6)))])
 (.cond (.t 31) (.seq (.reg [sm 32 (.v (.build [.nils, .nils, zi6, zu3, zu3, zu3, zu3, zu3, zu3, zu3, zu3, zi6, zi6, zi6, zi6, zi6, zi6, (.bool false), (.bool false), (.bool false), (.bool false), zi6, zi6, zi6, zi6, zi6, zi6, zi6, zi6, (.str .empty), zi6, zu3, zu3, zi6, zi6, .nils, .nils, zu3, zu3, zu3, zu3, zi6, zi6, zi6, zi6, .nils, zi6] [])), mv 33 11, st 47 6 32, mv 7 33])
 .ret) .skip))
 (.seq (.draw 14 [(7, 12), (0, 12), (3, 12), (5, 12)] [la 35 47 10, fa 36 0 4, fa 37 17 36, ld 38 37, fa 39 0 8, ld 40 39, sm 41 (.v (.sub 5 (.t 38) none (some (.t 40)) none)), sm 42 (.call 45 [(.t 35), (.t 41)]), mv 34 42, sm 43 (.p (.extract 0 (.t 34))), sm 44 (.p (.extract 1 (.t 34))), sm 45 (.p (.extract 2 (.t 34))), st 47 10 43, mv 11 45])
 (.seq (.seq (.reg [mv 46 11, sm 47 (.p (.bin .neq (.t 46) (.c zi6)))])
 (.cond (.t 47) (.seq (.reg [sm 48 (.v (.build [.nils, .nils, zi6, zu3, zu3, zu3, zu3, zu3, zu3, zu3, zu3, zi6, zi6, zi6, zi6, zi6, zi6, (.bool false), (.bool false), (.bool false), (.bool false), zi6, zi6, zi6, zi6, zi6, zi6, zi6, zi6, (.str .empty), zi6, zu3, zu3, zi6, zi6, .nils, .nils, zu3, zu3, zu3, zu3, zi6, zi6, zi6, zi6, .nils, zi6] [])), mv 49 11, st 47 6 48, mv 7 49])
 .ret) .skip))
 (.seq (.reg [la 50 47 10, st 47 6 50, sm 7 (.p (.mov (.c zi6)))])
 .ret))))))))
def rs23 : List AR := [.cell 6 true 47, .tmp 7]
theorem ok23 : okF Tryz.prog 23 51 ac23 rs23 = true := by kernel_rfl
def ac24 : AC := (.seq (.reg [sm 4 (.h (.box (.t 0))), sm 5 (.h (.box (.t 1))), sm 7 (.h (.box (.t 3))), sm 8 (.h (.alloc [zi6, zi6])), sm 9 (.p (.mov (.c zi6)))])
 (.seq (.seq (.reg [fa 15 0 5, la 16 19 15, mv 17 2, sm 18 (.call 52 [(.t 16), (.t 17)]), mv 14 18, sm 19 (.p (.extract 0 (.t 14))), sm 20 (.p (.extract 1 (.t 14))), sm 10 (.h (.alloc [zi6, zi6])), st 2 10 19, mv 11 20])
 (.seq (.reg [mv 21 11, sm 22 (.p (.un .not (.t 21))), mv 23 22, ⟨some 24, .h (.load true 47 (.t 7)), (some (23, false))⟩, ⟨some 25, .call 53 [(.t 24)], (some (23, false))⟩, ⟨some 26, .p (.un .not (.t 25)), (some (23, false))⟩, sm 27 (.p (.pick (.t 23) (.c (.bool true)) (.t 26)))])
 (.cond (.t 27) (.seq (.reg [sm 28 (.v (.build [zi6, zi6] [])), st 2 8 28, sm 9 (.p (.mov (.c (.int .i64 1))))])
 .ret) .skip)))
 (.seq (.draw 15 [(11, 13), (7, 13), (0, 13), (2, 13), (3, 13), (5, 13), (6, 13), (12, 13), (12, 14), (13, 14), (0, 14), (2, 14), (3, 14), (5, 14), (6, 14), (7, 14), (11, 14)] [la 30 22 5, mv 31 2, la 32 4 4, la 33 22 5, mv 34 2, sm 35 (.call 51 [(.t 32), (.t 33), (.t 34)]), la 36 47 7, sm 37 (.call 50 [(.t 30), (.t 31), (.t 35), (.t 36)]), mv 29 37, sm 38 (.p (.extract 0 (.t 29))), sm 39 (.p (.extract 1 (.t 29))), sm 12 (.h (.alloc [.nils, .nils, zi6, zu3, zu3, zu3, zu3, zu3, zu3, zu3, zu3, zi6, zi6, zi6, zi6, zi6, zi6, (.bool false), (.bool false), (.bool false), (.bool false), zi6, zi6, zi6, zi6, zi6, zi6, zi6, zi6, (.str .empty), zi6, zu3, zu3, zi6, zi6, .nils, .nils, zu3, zu3, zu3, zu3, zi6, zi6, zi6, zi6, .nils, zi6])), sm 13 (.h (.alloc [zi6, zi6])), st 47 12 38, st 2 13 39])
 (.seq (.reg [la 40 2 13, st 2 8 40, sm 9 (.p (.mov (.c zi6)))])
 .ret))))
def rs24 : List AR := [.cell 8 true 2, .tmp 9]
theorem ok24 : okF Tryz.prog 24 41 ac24 rs24 = true := by kernel_rfl
def ac25 : AC := (.seq (.reg [sm 2 (.h (.box (.t 0))), sm 4 (.h (.alloc [.nils, .nils, zi6, zu3, zu3, zu3, zu3, zu3, zu3, zu3, zu3, zi6, zi6, zi6, zi6, zi6, zi6, (.bool false), (.bool false), (.bool false), (.bool false), zi6, zi6, zi6, zi6, zi6, zi6, zi6, zi6, (.str .empty), zi6, zu3, zu3, zi6, zi6, .nils, .nils, zu3, zu3, zu3, zu3, zi6, zi6, zi6, zi6, .nils, zi6])), sm 5 (.p (.mov (.c zi6)))])
 (.seq (.reg [la 12 4 2, mv 13 1, sm 14 (.call 54 [(.t 12), (.t 13)]), mv 11 14, sm 15 (.p (.extract 0 (.t 11))), sm 16 (.p (.extract 1 (.t 11))), mv 6 15, mv 7 16])
 (.seq (.seq (.reg [mv 17 7, sm 18 (.p (.bin .neq (.t 17) (.c zi6)))])
 (.cond (.t 18) (.seq (.reg [sm 19 (.v (.build [.nils, .nils, zi6, zu3, zu3, zu3, zu3, zu3, zu3, zu3, zu3, zi6, zi6, zi6, zi6, zi6, zi6, (.bool false), (.bool false), (.bool false), (.bool false), zi6, zi6, zi6, zi6, zi6, zi6, zi6, zi6, (.str .empty), zi6, zu3, zu3, zi6, zi6, .nils, .nils, zu3, zu3, zu3, zu3, zi6, zi6, zi6, zi6, .nils, zi6] [])), mv 20 7, st 47 4 19, mv 5 20])
 .ret) .skip))
 (.seq (.reg [la 22 4 2, sm 23 (.call 55 [(.t 22)]), mv 21 23, sm 24 (.p (.extract 0 (.t 21))), sm 25 (.p (.extract 1 (.t 21))), sm 8 (.h (.alloc [.nils])), st 1 8 24, mv 9 25])
 (.seq (.reg [mv 27 1, fa 28 3 2, ld 29 28, sm 30 (.call 56 [(.t 27), (.t 29)]), mv 26 30, sm 31 (.p (.extract 0 (.t 26))), sm 32 (.p (.extract 1 (.t 26))), sm 10 (.h (.alloc [zi6, zu3, zu3, zu3, zu3, zu3, zu3, zu3, zu3, zi6, zi6, zi6, zi6, zi6, zi6, (.bool false), (.bool false), (.bool false), (.bool false), zi6, zi6, zi6, zi6, zi6, zi6, zi6, zi6, (.str .empty), zi6, zu3, zu3, zi6, zi6, .nils, .nils, zu3, zu3, zu3, zu3, zi6, zi6, zi6, zi6])), st 43 10 31, mv 7 32])
 (.seq (.seq (.reg [mv 33 7, sm 34 (.p (.bin .neq (.t 33) (.c zi6)))])
 (.cond (.t 34) (.seq (.reg [sm 35 (.v (.build [.nils, .nils, zi6, zu3, zu3, zu3, zu3, zu3, zu3, zu3, zu3, zi6, zi6, zi6, zi6, zi6, zi6, (.bool false), (.bool false), (.bool false), (.bool false), zi6, zi6, zi6, zi6, zi6, zi6, zi6, zi6, (.str .empty), zi6, zu3, zu3, zi6, zi6, .nils, .nils, zu3, zu3, zu3, zu3, zi6, zi6, zi6, zi6, .nils, zi6] [])), mv 36 7, st 47 4 35, mv 5 36])
 .ret) .skip))
 (.seq (.reg [mv 37 6, la 38 1 8, la 39 43 10, sm 40 (.v (.build [.nils, .nils, zi6, zu3, zu3, zu3, zu3, zu3, zu3, zu3, zu3, zi6, zi6, zi6, zi6, zi6, zi6, (.bool false), (.bool false), (.bool false), (.bool false), zi6, zi6, zi6, zi6, zi6, zi6, zi6, zi6, (.str .empty), zi6, zu3, zu3, zi6, zi6, .nils, .nils, zu3, zu3, zu3, zu3, zi6, zi6, zi6, zi6, .nils, zi6] [(0, 1, (.t 37)), (1, 1, (.t 38)), (2, 43, (.t 39))])), st 47 4 40, sm 5 (.p (.mov (.c zi6)))])
 .ret)))))))
def rs25 : List AR := [.cell 4 true 47, .tmp 5]
theorem ok25 : okF Tryz.prog 25 41 ac25 rs25 = true := by kernel_rfl
def ac26 : AC := (.seq (.reg [⟨some 0, .h (.alloc [(.int .u32 0), (.int .u32 0), (.int .u32 0), (.int .u32 0), (.int .u32 0), (.int .u32 0), (.int .u32 0), (.int .u32 0), (.int .u8 0), (.int .u8 0), (.int .u8 0), (.int .u8 0), (.int .u8 0), (.int .u8 0), (.int .u8 0), (.int .u8 0), (.int .u8 0), (.int .u8 0), (.int .u8 0), (.int .u8 0), (.int .u8 0), (.int .u8 0), (.int .u8 0), (.int .u8 0), (.int .u8 0), (.int .u8 0), (.int .u8 0), (.int .u8 0), (.int .u8 0), (.int .u8 0), (.int .u8 0), (.int .u8 0), (.int .u8 0), (.int .u8 0), (.int .u8 0), (.int .u8 0), (.int .u8 0), (.int .u8 0), (.int .u8 0), (.int .u8 0), (.int .u8 0), (.int .u8 0), (.int .u8 0), (.int .u8 0), (.int .u8 0), (.int .u8 0), (.int .u8 0), (.int .u8 0), (.int .u8 0), (.int .u8 0), (.int .u8 0), (.int .u8 0), (.int .u8 0), (.int .u8 0), (.int .u8 0), (.int .u8 0), (.int .u8 0), (.int .u8 0), (.int .u8 0), (.int .u8 0), (.int .u8 0), (.int .u8 0), (.int .u8 0), (.int .u8 0), (.int .u8 0), (.int .u8 0), (.int .u8 0), (.int .u8 0), (.int .u8 0), (.int .u8 0), (.int .u8 0), (.int .u8 0), (.int .u64 0)]), none⟩])
 (.seq (.reg [⟨some 1, .v (.build [(.int .u32 0), (.int .u32 0), (.int .u32 0), (.int .u32 0), (.int .u32 0), (.int .u32 0), (.int .u32 0), (.int .u32 0)] [(0, 1, (.c (.int .u32 1779033703))), (1, 1, (.c (.int .u32 3144134277))), (2, 1, (.c (.int .u32 1013904242))), (3, 1, (.c (.int .u32 2773480762))), (4, 1, (.c (.int .u32 1359893119))), (5, 1, (.c (.int .u32 2600822924))), (6, 1, (.c (.int .u32 528734635))), (7, 1, (.c (.int .u32 1541459225)))]), none⟩,
   ⟨some 2, .v (.build [(.int .u32 0), (.int .u32 0), (.int .u32 0), (.int .u32 0), (.int .u32 0), (.int .u32 0), (.int .u32 0), (.int .u32 0), (.int .u8 0), (.int .u8 0), (.int .u8 0), (.int .u8 0), (.int .u8 0), (.int .u8 0), (.int .u8 0), (.int .u8 0), (.int .u8 0), (.int .u8 0), (.int .u8 0), (.int .u8 0), (.int .u8 0), (.int .u8 0), (.int .u8 0), (.int .u8 0), (.int .u8 0), (.int .u8 0), (.int .u8 0), (.int .u8 0), (.int .u8 0), (.int .u8 0), (.int .u8 0), (.int .u8 0), (.int .u8 0), (.int .u8 0), (.int .u8 0), (.int .u8 0), (.int .u8 0), (.int .u8 0), (.int .u8 0), (.int .u8 0), (.int .u8 0), (.int .u8 0), (.int .u8 0), (.int .u8 0), (.int .u8 0), (.int .u8 0), (.int .u8 0), (.int .u8 0), (.int .u8 0), (.int .u8 0), (.int .u8 0), (.int .u8 0), (.int .u8 0), (.int .u8 0), (.int .u8 0), (.int .u8 0), (.int .u8 0), (.int .u8 0), (.int .u8 0), (.int .u8 0), (.int .u8 0), (.int .u8 0), (.int .u8 0), (.int .u8 0), (.int .u8 0), (.int .u8 0), (.int .u8 0), (.int .u8 0), (.int .u8 0), (.int .u8 0), (.int .u8 0), (.int .u8 0), (.int .u64 0)] [(0, 8, (.t 1))]), none⟩,
   ⟨none, .h (.store 73 (.t 0) (.t 2)), none⟩])
 .ret))
def rs26 : List AR := [.cell 0 true 73]
theorem ok26 : okF Tryz.prog 26 3 ac26 rs26 = true := by kernel_rfl
def ac27 : AC := (.seq (.reg [⟨some 2, .h (.box (.t 0)), none⟩,
 ⟨some 4, .h (.alloc [(.int .u32 0), (.int .u32 0), (.int .u32 0), (.int .u32 0), (.int .u32 0), (.int .u32 0), (.int .u32 0), (.int .u32 0), (.int .u8 0), (.int .u8 0), (.int .u8 0), (.int .u8 0), (.int .u8 0), (.int .u8 0), (.int .u8 0), (.int .u8 0), (.int .u8 0), (.int .u8 0), (.int .u8 0), (.int .u8 0), (.int .u8 0), (.int .u8 0), (.int .u8 0), (.int .u8 0), (.int .u8 0), (.int .u8 0), (.int .u8 0), (.int .u8 0), (.int .u8 0), (.int .u8 0), (.int .u8 0), (.int .u8 0), (.int .u8 0), (.int .u8 0), (.int .u8 0), (.int .u8 0), (.int .u8 0), (.int .u8 0), (.int .u8 0), (.int .u8 0), (.int .u8 0), (.int .u8 0), (.int .u8 0), (.int .u8 0), (.int .u8 0), (.int .u8 0), (.int .u8 0), (.int .u8 0), (.int .u8 0), (.int .u8 0), (.int .u8 0), (.int .u8 0), (.int .u8 0), (.int .u8 0), (.int .u8 0), (.int .u8 0), (.int .u8 0), (.int .u8 0), (.int .u8 0), (.int .u8 0), (.int .u8 0), (.int .u8 0), (.int .u8 0), (.int .u8 0), (.int .u8 0), (.int .u8 0), (.int .u8 0), (.int .u8 0), (.int .u8 0), (.int .u8 0), (.int .u8 0), (.int .u8 0), (.int .u64 0)]), none⟩])
 (.seq (.block 0 (.loop (.seq (.seq (.reg [⟨some 7, .p (.mov (.t 1)), none⟩,
   ⟨some 8, .p (.bin .neq (.t 7) (.c (.str ⟨#[]⟩))), none⟩])
 (.cond (.t 8) .skip (.exit 0)))
 (.block 1 (.seq (.reg [⟨some 9, .p (.fieldA 72 (.t 2)), none⟩,
   ⟨some 10, .h (.load false 1 (.t 9)), none⟩,
   ⟨some 11, .p (.binw .rem (.t 10) (.c (.int .u64 64))), none⟩,
   ⟨some 12, .p (.convw .i64 (.t 11)), none⟩,
   ⟨some 5, .p (.mov (.t 12)), none⟩])
 (.seq (.reg [⟨some 13, .p (.fieldA 8 (.t 2)), none⟩,
   ⟨some 14, .p (.mov (.t 5)), none⟩,
   ⟨some 15, .d (.asub 1 64 (.t 13) (some (.t 14)) none), none⟩,
   ⟨some 16, .p (.mov (.t 1)), none⟩,
   ⟨some 17, .m (.copyS (.t 15) (.t 16)), none⟩,
   ⟨some 6, .p (.mov (.t 17)), none⟩])
 (.seq (.reg [⟨some 18, .p (.mov (.t 1)), none⟩,
   ⟨some 19, .p (.mov (.t 6)), none⟩,
   ⟨some 20, .v (.ssub (.t 18) (some (.t 19)) none), none⟩,
   ⟨some 1, .p (.mov (.t 20)), none⟩])
 (.seq (.reg [⟨some 21, .p (.fieldA 72 (.t 2)), none⟩,
   ⟨some 22, .h (.load false 1 (.t 21)), none⟩,
   ⟨some 23, .p (.mov (.t 6)), none⟩,
   ⟨some 24, .p (.convw .u64 (.t 23)), none⟩,
   ⟨some 25, .p (.binw .add (.t 22) (.t 24)), none⟩,
   ⟨some 26, .p (.fieldA 72 (.t 2)), none⟩,
   ⟨none, .h (.store 1 (.t 26) (.t 25)), none⟩])
 (.seq (.reg [⟨some 27, .p (.mov (.t 5)), none⟩,
   ⟨some 28, .p (.mov (.t 6)), none⟩,
   ⟨some 29, .p (.bin .add (.t 27) (.t 28)), none⟩,
   ⟨some 30, .p (.bin .eql (.t 29) (.c (.int .i64 64))), none⟩])
 (.cond (.t 30) (.draw 7 [(4, 6), (1, 6), (3, 6)] [⟨some 31, .p (.fieldA 0 (.t 2)), none⟩,
   ⟨some 32, .h (.load true 8 (.t 31)), none⟩,
   ⟨some 33, .p (.fieldA 8 (.t 2)), none⟩,
   ⟨some 34, .d (.asub 1 64 (.t 33) none none), none⟩,
   ⟨some 35, .call 57 [(.t 32), (.t 34)], none⟩,
   ⟨some 36, .p (.fieldA 0 (.t 2)), none⟩,
   ⟨none, .h (.store 8 (.t 36) (.t 35)), none⟩]) .skip))))))))))
 (.seq (.reg [⟨some 37, .h (.load true 73 (.t 2)), none⟩,
   ⟨none, .h (.store 73 (.t 4) (.t 37)), none⟩])
 .ret)))
def rs27 : List AR := [.cell 4 true 73]
theorem ok27 : okF Tryz.prog 27 38 ac27 rs27 = true := by kernel_rfl
def ac28 : AC := (.seq (.reg [⟨some 2, .p (.mov (.c .nils)), none⟩])
 (.seq (.reg [⟨some 3, .p (.mov (.t 0)), none⟩,
   ⟨some 4, .p (.len true (.t 3)), none⟩,
   ⟨some 5, .call 9 [(.t 4)], none⟩,
   ⟨some 6, .p (.mov (.t 0)), none⟩,
   ⟨some 7, .l (.appendS 1 (.t 5) (.t 6)), none⟩,
   ⟨some 2, .p (.mov (.t 7)), none⟩])
 .ret))
def rs28 : List AR := [.tmp 2]
theorem ok28 : okF Tryz.prog 28 8 ac28 rs28 = true := by kernel_rfl
def ac29 : AC := (.seq (.reg [⟨some 1, .h (.box (.t 0)), none⟩,
 ⟨some 2, .h (.alloc [(.int .u8 0), (.int .u8 0), (.int .u8 0), (.int .u8 0), (.int .u8 0), (.int .u8 0), (.int .u8 0), (.int .u8 0), (.int .u8 0), (.int .u8 0), (.int .u8 0), (.int .u8 0), (.int .u8 0), (.int .u8 0), (.int .u8 0), (.int .u8 0), (.int .u8 0), (.int .u8 0), (.int .u8 0), (.int .u8 0), (.int .u8 0), (.int .u8 0), (.int .u8 0), (.int .u8 0), (.int .u8 0), (.int .u8 0), (.int .u8 0), (.int .u8 0), (.int .u8 0), (.int .u8 0), (.int .u8 0), (.int .u8 0)]), none⟩])
 (.seq (.reg [⟨some 8, .p (.fieldA 72 (.t 1)), none⟩,
   ⟨some 9, .h (.load false 1 (.t 8)), none⟩,
   ⟨some 10, .p (.binw .mul (.c (.int .u64 8)) (.t 9)), none⟩,
   ⟨some 3, .p (.mov (.t 10)), none⟩])
 (.seq (.reg [⟨some 11, .d (.bslice 1 1 [(.int .u8 0)] [(0, (.c (.int .u8 128)))]), none⟩,
   ⟨some 4, .p (.mov (.t 11)), none⟩])
 (.seq (.block 0 (.loop (.seq (.seq (.reg [⟨some 12, .p (.fieldA 72 (.t 1)), none⟩,
   ⟨some 13, .h (.load false 1 (.t 12)), none⟩,
   ⟨some 14, .p (.convw .i64 (.t 13)), none⟩,
   ⟨some 15, .p (.mov (.t 4)), none⟩,
   ⟨some 16, .p (.len false (.t 15)), none⟩,
   ⟨some 17, .p (.bin .add (.t 14) (.t 16)), none⟩,
   ⟨some 18, .p (.bin .rem (.t 17) (.c (.int .i64 64))), none⟩,
   ⟨some 19, .p (.bin .neq (.t 18) (.c (.int .i64 56))), none⟩])
 (.cond (.t 19) .skip (.exit 0)))
 (.block 1 (.reg [⟨some 20, .p (.mov (.t 4)), none⟩,
   ⟨some 21, .d (.bslice 1 1 [(.int .u8 0)] [(0, (.c (.int .u8 0)))]), none⟩,
   ⟨some 22, .l (.append 1 1 (.t 20) (.t 21)), none⟩,
   ⟨some 4, .p (.mov (.t 22)), none⟩])))))
 (.seq (.seq (.reg [⟨some 23, .p (.mov (.c (.int .i64 0))), none⟩])
 (.block 2 (.loop (.seq (.reg [⟨some 24, .p (.bin .lss (.t 23) (.c (.int .i64 8))), none⟩])
 (.seq (.cond (.t 24) .skip (.exit 2))
 (.seq (.block 3 (.seq (.reg [⟨some 25, .p (.mov (.t 23)), none⟩,
   ⟨some 5, .p (.mov (.t 25)), none⟩])
 (.reg [⟨some 26, .p (.mov (.t 4)), none⟩,
   ⟨some 27, .p (.mov (.t 3)), none⟩,
   ⟨some 28, .p (.mov (.t 5)), none⟩,
   ⟨some 29, .p (.bin .mul (.c (.int .i64 8)) (.t 28)), none⟩,
   ⟨some 30, .p (.bin .sub (.c (.int .i64 56)) (.t 29)), none⟩,
   ⟨some 31, .p (.binw .shr (.t 27) (.t 30)), none⟩,
   ⟨some 32, .p (.convw .u8 (.t 31)), none⟩,
   ⟨some 33, .d (.bslice 1 1 [(.int .u8 0)] [(0, (.t 32))]), none⟩,
   ⟨some 34, .l (.append 1 1 (.t 26) (.t 33)), none⟩,
   ⟨some 4, .p (.mov (.t 34)), none⟩])))
 (.reg [⟨some 35, .p (.bin .add (.t 23) (.c (.int .i64 1))), none⟩,
   ⟨some 23, .p (.mov (.t 35)), none⟩])))))))
 (.seq (.reg [⟨some 36, .h (.load true 73 (.t 1)), none⟩,
   ⟨some 37, .p (.mov (.t 4)), none⟩,
   ⟨some 38, .d (.sl2s (.t 37)), none⟩,
   ⟨some 39, .call 27 [(.t 36), (.t 38)], none⟩,
   ⟨none, .h (.store 73 (.t 1) (.t 39)), none⟩])
 (.seq (.reg [⟨some 6, .h (.alloc [(.int .u8 0), (.int .u8 0), (.int .u8 0), (.int .u8 0), (.int .u8 0), (.int .u8 0), (.int .u8 0), (.int .u8 0), (.int .u8 0), (.int .u8 0), (.int .u8 0), (.int .u8 0), (.int .u8 0), (.int .u8 0), (.int .u8 0), (.int .u8 0), (.int .u8 0), (.int .u8 0), (.int .u8 0), (.int .u8 0), (.int .u8 0), (.int .u8 0), (.int .u8 0), (.int .u8 0), (.int .u8 0), (.int .u8 0), (.int .u8 0), (.int .u8 0), (.int .u8 0), (.int .u8 0), (.int .u8 0), (.int .u8 0)]), none⟩])
 (.seq (.seq (.reg [⟨some 40, .p (.mov (.c (.int .i64 0))), none⟩])
 (.block 4 (.loop (.seq (.reg [⟨some 41, .p (.bin .lss (.t 40) (.c (.int .i64 32))), none⟩])
 (.seq (.cond (.t 41) .skip (.exit 4))
 (.seq (.block 5 (.seq (.reg [⟨some 42, .p (.mov (.t 40)), none⟩,
   ⟨some 7, .p (.mov (.t 42)), none⟩])
 (.reg [⟨some 43, .p (.mov (.t 7)), none⟩,
   ⟨some 44, .p (.mov (.t 7)), none⟩,
   ⟨some 45, .p (.bin .quo (.t 44) (.c (.int .i64 4))), none⟩,
   ⟨some 46, .p (.fieldA 0 (.t 1)), none⟩,
   ⟨some 47, .p (.idxA 1 (some 8) (.t 46) (.t 45)), none⟩,
   ⟨some 48, .h (.load false 1 (.t 47)), none⟩,
   ⟨some 49, .p (.mov (.t 7)), none⟩,
   ⟨some 50, .p (.bin .rem (.t 49) (.c (.int .i64 4))), none⟩,
   ⟨some 51, .p (.bin .mul (.c (.int .i64 8)) (.t 50)), none⟩,
   ⟨some 52, .p (.bin .sub (.c (.int .i64 24)) (.t 51)), none⟩,
   ⟨some 53, .p (.binw .shr (.t 48) (.t 52)), none⟩,
   ⟨some 54, .p (.convw .u8 (.t 53)), none⟩,
   ⟨some 55, .p (.idxA 1 (some 32) (.t 6) (.t 43)), none⟩,
   ⟨none, .h (.store 1 (.t 55) (.t 54)), none⟩])))
 (.reg [⟨some 56, .p (.bin .add (.t 40) (.c (.int .i64 1))), none⟩,
   ⟨some 40, .p (.mov (.t 56)), none⟩])))))))
 (.seq (.reg [⟨some 57, .h (.load true 32 (.t 6)), none⟩,
   ⟨none, .h (.store 32 (.t 2) (.t 57)), none⟩])
 .ret)))))))))
def rs29 : List AR := [.cell 2 true 32]
theorem ok29 : okF Tryz.prog 29 58 ac29 rs29 = true := by kernel_rfl
def ac30 : AC := (.seq (.reg [sm 8 (.p (.mov (.c (.bool true))))])
 (.seq (.reg [sm 9 (.p (.mov (.c (.bool true))))])
 (.block 0 (.loop (.block 1 (.seq (.reg [mv 19 2, mv 20 1, sm 21 (.p (.bin .sub (.t 19) (.t 20))), mv 10 21])
 (.seq (.seq (.reg [mv 22 10, sm 23 (.p (.bin .leq (.t 22) (.c (.int .i64 12))))])
 (.cond (.t 23) (.seq (.reg [mv 24 0, mv 25 1, mv 26 2, sm 27 (.call 58 [(.t 24), (.t 25), (.t 26)])])
 .ret) .skip))
 (.seq (.seq (.reg [mv 28 3, sm 29 (.p (.bin .eql (.t 28) (.c zi6)))])
 (.cond (.t 29) (.seq (.reg [mv 30 0, mv 31 1, mv 32 2, sm 33 (.call 59 [(.t 30), (.t 31), (.t 32)])])
 .ret) .skip))
 (.seq (.seq (.reg [mv 34 8, sm 35 (.p (.un .not (.t 34)))])
 (.cond (.t 35) (.seq (.reg [mv 36 0, mv 37 1, mv 38 2, sm 39 (.call 60 [(.t 36), (.t 37), (.t 38)])])
 (.reg [mv 40 3, sm 41 (.p (.bin .sub (.t 40) (.c (.int .i64 1)))), mv 3 41])) .skip))
 (.seq (.reg [mv 43 0, mv 44 1, mv 45 2, sm 46 (.call 61 [(.t 43), (.t 44), (.t 45)]), mv 42 46, sm 47 (.p (.extract 0 (.t 42))), sm 48 (.p (.extract 1 (.t 42))), mv 11 47, mv 12 48])
 (.seq (.seq (.reg [mv 49 12, sm 50 (.p (.bin .eql (.t 49) (.c (.int .i64 2))))])
 (.cond (.t 50) (.seq (.reg [mv 51 0, mv 52 1, mv 53 2, sm 54 (.call 62 [(.t 51), (.t 52), (.t 53)])])
 (.seq (.reg [mv 55 2, sm 56 (.p (.bin .sub (.t 55) (.c (.int .i64 1)))), mv 57 11, mv 58 1, sm 59 (.p (.bin .sub (.t 57) (.t 58))), sm 60 (.p (.bin .sub (.t 56) (.t 59))), mv 11 60])
 (.reg [sm 12 (.p (.mov (.c (.int .i64 1))))]))) .skip))
 (.seq (.seq (.reg [mv 61 8, mv 62 61, ⟨some 63, .p (.mov (.t 9)), (some (62, true))⟩, sm 64 (.p (.pick (.t 62) (.t 63) (.c (.bool false)))), mv 65 64, ⟨some 66, .p (.mov (.t 12)), (some (65, true))⟩, ⟨some 67, .p (.bin .eql (.t 66) (.c (.int .i64 1))), (some (65, true))⟩, sm 68 (.p (.pick (.t 65) (.t 67) (.c (.bool false))))])
 (.cond (.t 68) (.seq (.reg [mv 69 0, mv 70 1, mv 71 2, sm 72 (.call 63 [(.t 69), (.t 70), (.t 71)])])
 (.cond (.t 72) .ret .skip)) .skip))
 (.seq (.seq (.draw 15 [] [mv 73 1, sm 74 (.p (.bin .gtr (.t 73) (.c zi6))), mv 75 74, ⟨some 76, .p (.mov (.t 0)), (some (75, true))⟩, ⟨some 77, .p (.mov (.t 1)), (some (75, true))⟩, ⟨some 78, .p (.bin .sub (.t 77) (.c (.int .i64 1))), (some (75, true))⟩, ⟨some 79, .p (.idxA 1 none (.t 76) (.t 78)), (some (75, true))⟩, ⟨some 80, .h (.load false 1 (.t 79)), (some (75, true))⟩, ⟨some 81, .p (.mov (.t 0)), (some (75, true))⟩, ⟨some 82, .p (.mov (.t 11)), (some (75, true))⟩, ⟨some 83, .p (.idxA 1 none (.t 81) (.t 82)), (some (75, true))⟩, ⟨some 84, .h (.load false 1 (.t 83)), (some (75, true))⟩, ⟨some 85, .call 64 [(.t 80), (.t 84)], (some (75, true))⟩, ⟨some 86, .p (.un .not (.t 85)), (some (75, true))⟩, sm 87 (.p (.pick (.t 75) (.t 86) (.c (.bool false))))])
 (.cond (.t 87) (.seq (.reg [mv 88 0, mv 89 1, mv 90 2, mv 91 11, sm 92 (.call 65 [(.t 88), (.t 89), (.t 90), (.t 91)]), mv 13 92])
 (.seq (.reg [mv 93 13, mv 1 93])
 (.exit 1))) .skip))
 (.seq (.reg [mv 95 0, mv 96 1, mv 97 2, mv 98 11, sm 99 (.call 66 [(.t 95), (.t 96), (.t 97), (.t 98)]), mv 94 99, sm 100 (.p (.extract 0 (.t 94))), sm 101 (.p (.extract 1 (.t 94))), mv 14 100, mv 15 101])
 (.seq (.reg [mv 102 15, mv 9 102])
 (.seq (.reg [mv 103 14, mv 104 1, sm 105 (.p (.bin .sub (.t 103) (.t 104))), mv 106 2, mv 107 14, sm 108 (.p (.bin .sub (.t 106) (.t 107))), mv 16 105, mv 17 108])
 (.seq (.reg [mv 109 10, sm 110 (.p (.bin .quo (.t 109) (.c (.int .i64 8)))), mv 18 110])
 (.seq (.reg [mv 111 16, mv 112 17, sm 113 (.p (.bin .lss (.t 111) (.t 112)))])
 (.cond (.t 113) (.seq (.reg [mv 114 16, mv 115 18, sm 116 (.p (.bin .geq (.t 114) (.t 115))), mv 8 116])
 (.seq (.reg [mv 117 0, mv 118 1, mv 119 14, mv 120 3, sm 121 (.call 30 [(.t 117), (.t 118), (.t 119), (.t 120)])])
 (.reg [mv 122 14, sm 123 (.p (.bin .add (.t 122) (.c (.int .i64 1)))), mv 1 123]))) (.seq (.reg [mv 124 17, mv 125 18, sm 126 (.p (.bin .geq (.t 124) (.t 125))), mv 8 126])
 (.seq (.reg [mv 127 0, mv 128 14, sm 129 (.p (.bin .add (.t 128) (.c (.int .i64 1)))), mv 130 2, mv 131 3, sm 132 (.call 30 [(.t 127), (.t 129), (.t 130), (.t 131)])])
 (.reg [mv 133 14, mv 2 133]))))))))))))))))))))))
def rs30 : List AR := []
theorem ok30 : okF Tryz.prog 30 134 ac30 rs30 = true := by kernel_rfl
def ac31 : AC := (.seq (.reg [sm 2 (.p (.mov (.c zi6)))])
 (.seq (.cond (.c (.bool false)) (.seq (.reg [mv 3 0, sm 4 (.p (.convw .u32 (.t 3))), sm 5 (.call 67 [(.t 4)]), mv 2 5])
 .ret) .skip)
 (.seq (.reg [mv 6 0, sm 7 (.call 68 [(.t 6)]), mv 2 7])
 .ret)))
def rs31 : List AR := [.tmp 2]
theorem ok31 : okF Tryz.prog 31 8 ac31 rs31 = true := by kernel_rfl
def ac32 : AC := (.seq (.reg [⟨some 2, .h (.alloc [(.int .u8 0), (.int .u8 0), (.int .u8 0), (.int .u8 0), (.int .u8 0), (.int .u8 0), (.int .u8 0), (.int .u8 0), (.int .u8 0), (.int .u8 0), (.int .u8 0), (.int .u8 0), (.int .u8 0), (.int .u8 0), (.int .u8 0), (.int .u8 0)]), none⟩])
 (.seq (.reg [⟨some 6, .p (.mov (.t 0)), none⟩,
   ⟨some 7, .call 69 [(.t 6)], none⟩,
   ⟨some 3, .h (.alloc [(.int .u8 0), (.int .u8 0), (.int .u8 0), (.int .u8 0), (.int .u8 0), (.int .u8 0), (.int .u8 0), (.int .u8 0), (.int .u8 0), (.int .u8 0), (.int .u8 0), (.int .u8 0), (.int .u8 0), (.int .u8 0), (.int .u8 0), (.int .u8 0), (.int .u8 0), (.int .u8 0), (.int .u8 0), (.int .u8 0), (.int .u8 0), (.int .u8 0), (.int .u8 0), (.int .u8 0), (.int .u8 0), (.int .u8 0), (.int .u8 0), (.int .u8 0), (.int .u8 0), (.int .u8 0), (.int .u8 0), (.int .u8 0)]), none⟩,
   ⟨none, .h (.store 32 (.t 3) (.t 7)), none⟩])
 (.seq (.reg [⟨some 8, .v (.build [(.int .u8 0), (.int .u8 0), (.int .u8 0), (.int .u8 0), (.int .u8 0), (.int .u8 0), (.int .u8 0), (.int .u8 0), (.int .u8 0), (.int .u8 0), (.int .u8 0), (.int .u8 0), (.int .u8 0), (.int .u8 0), (.int .u8 0), (.int .u8 0)] []), none⟩,
   ⟨some 4, .h (.alloc [(.int .u8 0), (.int .u8 0), (.int .u8 0), (.int .u8 0), (.int .u8 0), (.int .u8 0), (.int .u8 0), (.int .u8 0), (.int .u8 0), (.int .u8 0), (.int .u8 0), (.int .u8 0), (.int .u8 0), (.int .u8 0), (.int .u8 0), (.int .u8 0)]), none⟩,
   ⟨none, .h (.store 16 (.t 4) (.t 8)), none⟩])
 (.seq (.seq (.reg [⟨some 5, .p (.mov (.c (.int .i64 0))), none⟩])
 (.block 0 (.loop (.seq (.seq (.reg [⟨some 9, .p (.mov (.t 5)), none⟩,
   ⟨some 10, .p (.bin .lss (.t 9) (.c (.int .i64 16))), none⟩])
 (.cond (.t 10) .skip (.exit 0)))
 (.seq (.block 1 (.reg [⟨some 13, .p (.mov (.t 5)), none⟩,
   ⟨some 14, .p (.mov (.t 5)), none⟩,
   ⟨some 15, .p (.idxA 1 (some 32) (.t 3) (.t 14)), none⟩,
   ⟨some 16, .h (.load false 1 (.t 15)), none⟩,
   ⟨some 17, .p (.idxA 1 (some 16) (.t 4) (.t 13)), none⟩,
   ⟨none, .h (.store 1 (.t 17) (.t 16)), none⟩]))
 (.reg [⟨some 11, .p (.mov (.t 5)), none⟩,
   ⟨some 12, .p (.bin .add (.t 11) (.c (.int .i64 1))), none⟩,
   ⟨some 5, .p (.mov (.t 12)), none⟩]))))))
 (.seq (.reg [⟨some 18, .h (.load true 16 (.t 4)), none⟩,
   ⟨none, .h (.store 16 (.t 2) (.t 18)), none⟩])
 .ret)))))
def rs32 : List AR := [.cell 2 true 16]
theorem ok32 : okF Tryz.prog 32 19 ac32 rs32 = true := by kernel_rfl
def ac33 : AC := (.seq (.reg [⟨some 4, .p (.mov (.c .nils)), none⟩])
 (.seq (.reg [⟨some 7, .p (.mov (.t 0)), none⟩,
   ⟨some 8, .p (.convw .u8 (.t 7)), none⟩,
   ⟨some 9, .d (.bslice 1 1 [(.int .u8 0)] [(0, (.t 8))]), none⟩,
   ⟨some 5, .p (.mov (.t 9)), none⟩])
 (.seq (.seq (.reg [⟨some 6, .p (.mov (.c (.int .i64 0))), none⟩])
 (.block 0 (.loop (.seq (.seq (.reg [⟨some 10, .p (.mov (.t 6)), none⟩,
   ⟨some 11, .p (.mov (.t 1)), none⟩,
   ⟨some 12, .p (.len false (.t 11)), none⟩,
   ⟨some 13, .p (.bin .lss (.t 10) (.t 12)), none⟩])
 (.cond (.t 13) .skip (.exit 0)))
 (.seq (.block 1 (.reg [⟨some 16, .p (.mov (.t 5)), none⟩,
   ⟨some 17, .p (.mov (.t 1)), none⟩,
   ⟨some 18, .p (.mov (.t 6)), none⟩,
   ⟨some 19, .p (.idxA 1 none (.t 17) (.t 18)), none⟩,
   ⟨some 20, .h (.load false 1 (.t 19)), none⟩,
   ⟨some 21, .call 70 [(.t 20)], none⟩,
   ⟨some 22, .l (.append 1 1 (.t 16) (.t 21)), none⟩,
   ⟨some 5, .p (.mov (.t 22)), none⟩]))
 (.reg [⟨some 14, .p (.mov (.t 6)), none⟩,
   ⟨some 15, .p (.bin .add (.t 14) (.c (.int .i64 1))), none⟩,
   ⟨some 6, .p (.mov (.t 15)), none⟩]))))))
 (.seq (.reg [⟨some 23, .p (.mov (.t 5)), none⟩,
   ⟨some 4, .p (.mov (.t 23)), none⟩])
 .ret))))
def rs33 : List AR := [.tmp 4]
theorem ok33 : okF Tryz.prog 33 24 ac33 rs33 = true := by kernel_rfl
def ac34 : AC := (.seq (.reg [sm 1 (.h (.box (.t 0))), sm 2 (.h (.alloc [zu3, zi6]))])
 (.seq (.seq (.reg [la 4 5 1, sm 5 (.call 71 [(.t 4)]), sm 6 (.p (.un .not (.t 5)))])
 (.cond (.t 6) (.seq (.reg [sm 7 (.v (.build [zu3, zi6] [(1, 1, (.c (.int .i64 1)))])), st 2 2 7])
 .ret) .skip))
 (.seq (.reg [fa 8 0 1, ld 9 8, sm 10 (.p (.binw .shl (.t 9) (.c (.int .u64 26)))), fa 11 1 1, ld 12 11, sm 13 (.p (.binw .shl (.t 12) (.c (.int .u64 22)))), sm 14 (.p (.bin .add (.t 10) (.t 13))), fa 15 2 1, ld 16 15, sm 17 (.p (.binw .shl (.t 16) (.c (.int .u64 18)))), sm 18 (.p (.bin .add (.t 14) (.t 17))), fa 19 3 1, ld 20 19, sm 21 (.p (.binw .shl (.t 20) (.c (.int .u64 14)))), sm 22 (.p (.bin .add (.t 18) (.t 21))), mv 3 22])
 (.seq (.seq (.reg [fa 23 4 1, ld 24 23, sm 25 (.p (.bin .lss (.t 24) (.c zi6)))])
 (.cond (.t 25) (.reg [mv 26 3, sm 27 (.p (.bin .add (.t 26) (.c (.int .i64 262144)))), mv 3 27]) .skip))
 (.seq (.reg [mv 28 3, fa 29 4 1, ld 30 29, sm 31 (.p (.bin .add (.t 28) (.t 30))), sm 32 (.p (.convw .u32 (.t 31))), sm 33 (.v (.build [zu3, zi6] [(0, 1, (.t 32))])), st 2 2 33])
 .ret)))))
def rs34 : List AR := [.cell 2 true 2]
theorem ok34 : okF Tryz.prog 34 34 ac34 rs34 = true := by kernel_rfl
def ac35 : AC := (.seq (.reg [sm 1 (.h (.box (.t 0))), sm 2 (.p (.mov (.c .nils)))])
 (.seq (.reg [fa 9 0 1, ld 10 9, fa 11 1 1, ld 12 11, fa 13 3 1, ld 14 13, sm 15 (.p (.len false (.t 14))), sm 16 (.d (.bslice 1 3 [zi6] [(0, (.t 10)), (1, (.t 12)), (2, (.t 15))])), mv 3 16])
 (.seq (.reg [sm 4 (.p (.mov (.c .nils)))])
 (.seq (.seq (.reg [fa 17 2 1, ld 18 17, sm 19 (.p (.len false (.t 18))), sm 20 (.p (.mov (.c zi6)))])
 (.block 0 (.loop (.seq (.reg [sm 21 (.p (.bin .lss (.t 20) (.t 19)))])
 (.seq (.cond (.t 21) .skip (.exit 0))
 (.seq (.block 1 (.seq (.reg [sm 22 (.p (.idxA 2 none (.t 18) (.t 20))), la 23 2 22, sm 6 (.h (.alloc [zi6, (.str .empty)])), st 2 6 23])
 (.draw 12 [(2, 3), (3, 4), (2, 4), (7, 8), (8, 9), (4, 9), (3, 9), (2, 9), (7, 9)] [mv 24 3, fa 25 0 6, ld 26 25, sm 27 (.d (.bslice 1 1 [zi6] [(0, (.t 26))])), sm 28 (.l (.append 1 8 (.t 24) (.t 27))), mv 29 4, fa 30 1 6, ld 31 30, sm 32 (.d (.bslice 1 1 [(.str .empty)] [(0, (.t 31))])), sm 33 (.l (.append 1 16 (.t 29) (.t 32))), mv 3 28, mv 4 33])))
 (.reg [sm 34 (.p (.bin .add (.t 20) (.c (.int .i64 1)))), mv 20 34])))))))
 (.seq (.seq (.reg [fa 35 3 1, ld 36 35, sm 37 (.p (.len false (.t 36))), sm 38 (.p (.mov (.c zi6)))])
 (.block 2 (.loop (.seq (.reg [sm 39 (.p (.bin .lss (.t 38) (.t 37)))])
 (.seq (.cond (.t 39) .skip (.exit 2))
 (.seq (.block 3 (.seq (.reg [sm 40 (.p (.idxA 128 none (.t 36) (.t 38))), la 41 128 40, sm 8 (.h (.alloc [zu8, zu8, zu8, zu8, zu8, zu8, zu8, zu8, zu8, zu8, zu8, zu8, zu8, zu8, zu8, zu8, zu8, zu8, zu8, zu8, zu8, zu8, zu8, zu8, zu8, zu8, zu8, zu8, zu8, zu8, zu8, zu8, zu8, zu8, zu8, zu8, zu8, zu8, zu8, zu8, zu8, zu8, zu8, zu8, zu8, zu8, zu8, zu8, zu8, zu8, zu8, zu8, zu8, zu8, zu8, zu8, zu8, zu8, zu8, zu8, zu8, zu8, zu8, zu8, zu8, zu8, zu8, zu8, zu8, zu8, zu8, zu8, zu8, zu8, zu8, zu8, zu8, zu8, zu8, zu8, zu8, zu8, zu8, zu8, zu8, zu8, zu8, zu8, zu8, zu8, zu8, zu8, zu8, zu8, zu8, zu8, zu8, zu8, zu8, zu8, zu8, zu8, zu8, zu8, zu8, zu8, zu8, zu8, zu8, zu8, zu8, zu8, zu8, zu8, zu8, zu8, zu8, zu8, zu8, zu8, zu8, zu8, zu8, zu8, zu8, zu8, zu8, zu8])), st 128 8 41])
 (.reg [mv 42 4, sm 43 (.d (.asub 1 128 (.t 8) none none)), sm 44 (.d (.sl2s (.t 43))), sm 45 (.d (.bslice 1 1 [(.str .empty)] [(0, (.t 44))])), sm 46 (.l (.append 1 16 (.t 42) (.t 45))), mv 4 46])))
 (.reg [sm 47 (.p (.bin .add (.t 38) (.c (.int .i64 1)))), mv 38 47])))))))
 (.seq (.reg [mv 48 3, sm 49 (.call 72 [(.t 48)]), mv 50 4, sm 51 (.call 73 [(.t 50)]), sm 52 (.l (.append 1 1 (.t 49) (.t 51))), mv 2 52])
 .ret))))))
def rs35 : List AR := [.tmp 2]
theorem ok35 : okF Tryz.prog 35 53 ac35 rs35 = true := by kernel_rfl
def ac36 : AC := (.seq (.reg [sm 3 (.h (.box (.t 1))), sm 4 (.p (.mov (.c (.bool false))))])
 (.seq (.seq (.draw 9 [] [fa 5 2 3, ld 6 5, mv 7 0, fa 8 1 3, ld 9 8, sm 10 (.p (.nilchk (.t 7))), sm 11 (.p (.idxA 1 (some 4) (.t 10) (.t 9))), ld 12 11, sm 13 (.p (.bin .neq (.t 6) (.t 12)))])
 (.cond (.t 13) (.seq (.reg [sm 4 (.p (.mov (.c (.bool false))))])
 .ret) .skip))
 (.seq (.seq (.reg [fa 14 0 3, ld 15 14, sm 16 (.p (.bin .eql (.t 15) (.c (.int .i64 1))))])
 (.cond (.t 16) (.draw 12 [(2, 11), (5, 11), (7, 11)] [mv 17 0, fa 18 1 3, ld 19 18, sm 20 (.p (.nilchk (.t 17))), sm 21 (.p (.idxA 1 (some 4) (.t 20) (.t 19))), ld 22 21, fa 23 3 3, ld 24 23, sm 25 (.p (.bin .add (.t 22) (.t 24))), sm 26 (.p (.nilchk (.t 17))), sm 27 (.p (.idxA 1 (some 4) (.t 26) (.t 19))), st 1 27 25]) .skip))
 (.seq (.reg [sm 4 (.p (.mov (.c (.bool true))))])
 .ret))))
def rs36 : List AR := [.tmp 4]
theorem ok36 : okF Tryz.prog 36 28 ac36 rs36 = true := by kernel_rfl
def ac37 : AC := (.seq (.reg [sm 2 (.h (.box (.t 0))), sm 4 (.p (.mov (.c (.bool false))))])
 (.seq (.seq (.reg [fa 8 1 2, ld 9 8, sm 10 (.p (.bin .lss (.t 9) (.c zi6))), mv 11 10, ⟨some 12, .p (.fieldA 1 (.t 2)), (some (11, false))⟩, ⟨some 13, .h (.load false 1 (.t 12)), (some (11, false))⟩, ⟨some 14, .p (.mov (.t 1)), (some (11, false))⟩, ⟨some 15, .p (.bin .geq (.t 13) (.t 14)), (some (11, false))⟩, sm 16 (.p (.pick (.t 11) (.c (.bool true)) (.t 15))), mv 17 16, ⟨some 18, .p (.fieldA 2 (.t 2)), (some (17, false))⟩, ⟨some 19, .h (.load false 1 (.t 18)), (some (17, false))⟩, ⟨some 20, .call 74 [(.t 19), (.c zi6), (.c (.int .i64 1099511627776))], (some (17, false))⟩, ⟨some 21, .p (.un .not (.t 20)), (some (17, false))⟩, sm 22 (.p (.pick (.t 17) (.c (.bool true)) (.t 21)))])
 (.cond (.t 22) (.seq (.reg [sm 4 (.p (.mov (.c (.bool false))))])
 .ret) .skip))
 (.seq (.reg [sm 23 (.m .mk), sm 24 (.p (.mkfn 75 [(.t 2)])), ⟨none, .m (.set (.c (.i .i64)) (.t 23) (.c (.int .i64 1)) (.t 24)), none⟩, sm 25 (.p (.mkfn 76 [(.t 2)])), ⟨none, .m (.set (.c (.i .i64)) (.t 23) (.c (.int .i64 2)) (.t 25)), none⟩, sm 26 (.p (.mkfn 77 [(.t 2)])), ⟨none, .m (.set (.c (.i .i64)) (.t 23) (.c (.int .i64 3)) (.t 26)), none⟩, sm 27 (.p (.mkfn 78 [(.t 2)])), ⟨none, .m (.set (.c (.i .i64)) (.t 23) (.c (.int .i64 4)) (.t 27)), none⟩, sm 28 (.p (.mkfn 79 [(.t 2)])), ⟨none, .m (.set (.c (.i .i64)) (.t 23) (.c (.int .i64 5)) (.t 28)), none⟩, mv 29 23, mv 5 29])
 (.seq (.reg [mv 31 5, fa 32 0 2, ld 33 32, sm 34 (.m (.get true (.c (.i .i64)) .nilf (.t 31) (.t 33))), mv 30 34, sm 35 (.p (.extract 0 (.t 30))), sm 36 (.p (.extract 1 (.t 30))), mv 6 35, mv 7 36])
 (.seq (.reg [mv 37 7, mv 38 37, ⟨some 39, .p (.mov (.t 6)), (some (38, true))⟩, ⟨some 40, .callv (.t 39) [], (some (38, true))⟩, sm 41 (.p (.pick (.t 38) (.t 40) (.c (.bool false)))), mv 4 41])
 .ret)))))
def rs37 : List AR := [.tmp 4]
theorem ok37 : okF Tryz.prog 37 42 ac37 rs37 = true := by kernel_rfl
def ac38 : AC := (.seq (.reg [sm 1 (.h (.box (.t 0))), sm 2 (.p (.mov (.c zi6)))])
 (.seq (.seq (.reg [fa 3 18 1, ld 4 3, sm 5 (.p (.len false (.t 4))), sm 6 (.p (.bin .eql (.t 5) (.c zi6)))])
 (.cond (.t 6) (.seq (.reg [sm 2 (.p (.mov (.c zi6)))])
 .ret) .skip))
 (.seq (.reg [fa 7 18 1, ld 8 7, fa 9 18 1, ld 10 9, sm 11 (.p (.len false (.t 10))), sm 12 (.p (.bin .sub (.t 11) (.c (.int .i64 1)))), sm 13 (.p (.idxA 33 none (.t 8) (.t 12))), fa 14 0 13, ld 15 14, mv 2 15])
 .ret)))
def rs38 : List AR := [.tmp 2]
theorem ok38 : okF Tryz.prog 38 16 ac38 rs38 = true := by kernel_rfl
def rfA390 : AC := (.seq (.reg [mv 6 10])
 (.reg [sm 7 (.h (.alloc [zu8, zu8, zu8, zu8, zu8, zu8, zu8, zu8, zu8, zu8, zu8, zu8, zu8, zu8, zu8, zu8])), st 16 7 11]))
def rfB390 : AC := (.block 1 (.seq (.reg [mv 12 6, ld 13 3, sm 14 (.p (.bin .eql (.t 12) (.t 13)))])
 (.cond (.t 14) (.seq (.reg [la 15 16 7, st 16 4 15, ⟨none, .h (.store 1 (.t 5) (.c zi6)), none⟩])
 .ret) .skip)))
def ac39 : AC := (.seq (.reg [sm 2 (.h (.box (.t 0))), sm 3 (.h (.box (.t 1))), sm 4 (.h (.alloc [zu8, zu8, zu8, zu8, zu8, zu8, zu8, zu8, zu8, zu8, zu8, zu8, zu8, zu8, zu8, zu8])), sm 5 (.h (.alloc [zi6]))])
 (.seq (.seq (.reg [la 8 19 2, sm 9 (.call 80 [(.t 8)])])
 (.block 0 (.rangeF 390 (.t 9) [3, 4, 5] [10, 11] rfA390 rfB390)))
 (.seq (.reg [sm 16 (.v (.build [zu8, zu8, zu8, zu8, zu8, zu8, zu8, zu8, zu8, zu8, zu8, zu8, zu8, zu8, zu8, zu8] [])), st 16 4 16, ⟨none, .h (.store 1 (.t 5) (.c (.int .i64 1))), none⟩])
 .ret)))
def rs39 : List AR := [.cell 4 true 16, .cell 5 false 1]
theorem ok39 : okF Tryz.prog 39 17 ac39 rs39 = true := by kernel_rfl
def ac40 : AC := (.seq (.reg [sm 4 (.h (.box (.t 1))), sm 6 (.h (.alloc [zu8, zu8, zu8, zu8, zu8, zu8, zu8, zu8, zu8, zu8, zu8, zu8, zu8, zu8, zu8, zu8]))])
 (.seq (.draw 9 [(4, 6), (1, 6), (6, 7), (7, 8), (1, 8), (4, 8), (6, 8)] [mv 7 0, sm 8 (.d (.asub 1 16 (.t 4) none none)), sm 9 (.d (.sl2s (.t 8))), mv 10 2, sm 11 (.call 9 [(.t 10)]), sm 12 (.d (.sl2s (.t 11))), sm 13 (.d (.bslice 1 3 [(.str .empty)] [(0, (.t 7)), (1, (.t 9)), (2, (.t 12))])), sm 14 (.call 8 [(.c (.int .i64 292)), (.t 13)]), st 16 6 14])
 .ret))
def rs40 : List AR := [.cell 6 true 16]
theorem ok40 : okF Tryz.prog 40 15 ac40 rs40 = true := by kernel_rfl
def ac41 : AC := (.seq (.reg [sm 1 (.h (.box (.t 0))), sm 2 (.p (.mov (.c zi6)))])
 (.seq (.reg [fa 7 1 1, ld 8 7, sm 9 (.p (.bin .mul (.t 8) (.c (.int .i64 128)))), mv 3 9])
 (.seq (.block 0 (.seq (.reg [fa 11 1 1, ld 12 11, sm 13 (.p (.bin .lss (.t 12) (.c (.int .i64 1)))), mv 14 13, ⟨some 15, .p (.fieldA 1 (.t 1)), (some (14, false))⟩, ⟨some 16, .h (.load false 1 (.t 15)), (some (14, false))⟩, ⟨some 17, .p (.bin .gtr (.t 16) (.c (.int .i64 64))), (some (14, false))⟩, sm 18 (.p (.pick (.t 14) (.c (.bool true)) (.t 17))), mv 19 18, ⟨some 20, .p (.fieldA 0 (.t 1)), (some (19, false))⟩, ⟨some 21, .h (.load false 1 (.t 20)), (some (19, false))⟩, ⟨some 22, .p (.fieldA 1 (.t 1)), (some (19, false))⟩, ⟨some 23, .h (.load false 1 (.t 22)), (some (19, false))⟩, ⟨some 24, .call 81 [(.t 21), (.t 23)], (some (19, false))⟩, ⟨some 25, .p (.un .not (.t 24)), (some (19, false))⟩, sm 26 (.p (.pick (.t 19) (.c (.bool true)) (.t 25))), mv 10 26])
 (.cond (.t 10) (.seq (.reg [sm 2 (.p (.mov (.c (.int .i64 7))))])
 .ret) (.seq (.reg [fa 28 2 1, ld 29 28, sm 30 (.p (.len false (.t 29))), sm 31 (.p (.bin .gtr (.t 30) (.c (.int .i64 64)))), mv 32 31, ⟨some 33, .p (.fieldA 3 (.t 1)), (some (32, false))⟩, ⟨some 34, .h (.load false 1 (.t 33)), (some (32, false))⟩, ⟨some 35, .p (.len false (.t 34)), (some (32, false))⟩, ⟨some 36, .p (.bin .gtr (.t 35) (.c (.int .i64 64))), (some (32, false))⟩, sm 37 (.p (.pick (.t 32) (.c (.bool true)) (.t 36))), mv 27 37])
 (.cond (.t 27) (.seq (.reg [sm 2 (.p (.mov (.c (.int .i64 2))))])
 .ret) .skip)))))
 (.seq (.reg [sm 4 (.p (.mov (.c zi6)))])
 (.seq (.seq (.reg [fa 38 2 1, ld 39 38, sm 40 (.p (.len false (.t 39))), sm 41 (.p (.mov (.c zi6)))])
 (.block 1 (.loop (.seq (.reg [sm 42 (.p (.bin .lss (.t 41) (.t 40)))])
 (.seq (.cond (.t 42) .skip (.exit 1))
 (.seq (.block 2 (.seq (.reg [sm 43 (.p (.idxA 2 none (.t 39) (.t 41))), la 44 2 43, sm 6 (.h (.alloc [zi6, (.str .empty)])), st 2 6 44])
 (.seq (.seq (.reg [fa 45 1 6, ld 46 45, ⟨some 47, .p (.bin .eql (.t 46) (.c (.str ⟨#[]⟩))), none⟩, mv 48 47, ⟨some 49, .p (.fieldA 0 (.t 6)), (some (48, false))⟩, ⟨some 50, .h (.load false 1 (.t 49)), (some (48, false))⟩, ⟨some 51, .p (.mov (.t 4)), (some (48, false))⟩, ⟨some 52, .p (.bin .lss (.t 50) (.t 51)), (some (48, false))⟩, sm 53 (.p (.pick (.t 48) (.c (.bool true)) (.t 52))), mv 54 53, ⟨some 55, .p (.fieldA 0 (.t 6)), (some (54, false))⟩, ⟨some 56, .h (.load false 1 (.t 55)), (some (54, false))⟩, ⟨some 57, .p (.mov (.t 3)), (some (54, false))⟩, ⟨some 58, .p (.bin .gtr (.t 56) (.t 57)), (some (54, false))⟩, sm 59 (.p (.pick (.t 54) (.c (.bool true)) (.t 58))), mv 60 59, ⟨some 61, .p (.fieldA 1 (.t 6)), (some (60, false))⟩, ⟨some 62, .h (.load false 1 (.t 61)), (some (60, false))⟩, ⟨some 63, .p (.len true (.t 62)), (some (60, false))⟩, ⟨some 64, .p (.mov (.t 3)), (some (60, false))⟩, ⟨some 65, .p (.fieldA 0 (.t 6)), (some (60, false))⟩, ⟨some 66, .h (.load false 1 (.t 65)), (some (60, false))⟩, ⟨some 67, .p (.bin .sub (.t 64) (.t 66)), (some (60, false))⟩, ⟨some 68, .p (.bin .gtr (.t 63) (.t 67)), (some (60, false))⟩, sm 69 (.p (.pick (.t 60) (.c (.bool true)) (.t 68)))])
 (.cond (.t 69) (.seq (.reg [sm 2 (.p (.mov (.c (.int .i64 3))))])
 .ret) .skip))
 (.reg [fa 70 0 6, ld 71 70, fa 72 1 6, ld 73 72, sm 74 (.p (.len true (.t 73))), sm 75 (.p (.bin .add (.t 71) (.t 74))), mv 4 75]))))
 (.reg [sm 76 (.p (.bin .add (.t 41) (.c (.int .i64 1)))), mv 41 76])))))))
 (.seq (.reg [sm 2 (.p (.mov (.c zi6)))])
 .ret))))))
def rs41 : List AR := [.tmp 2]
theorem ok41 : okF Tryz.prog 41 77 ac41 rs41 = true := by kernel_rfl
def rfA420 : AC := (.seq (.reg [mv 10 76])
 (.reg [sm 11 (.h (.alloc [zu8, zu8, zu8, zu8, zu8, zu8, zu8, zu8, zu8, zu8, zu8, zu8, zu8, zu8, zu8, zu8])), st 16 11 77]))
def rfB420 : AC := (.block 6 (.seq (.reg [ld 78 9, sm 79 (.p (.len false (.t 78))), sm 80 (.p (.bin .gtr (.t 79) (.c zi6))), mv 81 80, ⟨some 82, .h (.load false 1 (.t 9)), (some (81, true))⟩, ⟨some 83, .p (.idxA 33 none (.t 82) (.c zi6)), (some (81, true))⟩, ⟨some 84, .p (.fieldA 0 (.t 83)), (some (81, true))⟩, ⟨some 85, .h (.load false 1 (.t 84)), (some (81, true))⟩, ⟨some 86, .p (.mov (.t 10)), (some (81, true))⟩, ⟨some 87, .p (.bin .eql (.t 85) (.t 86)), (some (81, true))⟩, sm 88 (.p (.pick (.t 81) (.t 87) (.c (.bool false))))])
 (.cond (.t 88) (.seq (.seq (.draw 6 [] [ld 89 9, sm 90 (.p (.idxA 33 none (.t 89) (.c zi6))), fa 91 1 90, la 92 16 91, la 93 16 11, sm 94 (.v (.eqa true [(.i .u8), (.i .u8), (.i .u8), (.i .u8), (.i .u8), (.i .u8), (.i .u8), (.i .u8), (.i .u8), (.i .u8), (.i .u8), (.i .u8), (.i .u8), (.i .u8), (.i .u8), (.i .u8)] (.t 92) (.t 93)))])
 (.cond (.t 94) (.seq (.reg [⟨none, .h (.store 1 (.t 2) (.c (.int .i64 290))), none⟩])
 .ret) .skip))
 (.reg [ld 95 9, sm 96 (.v (.sub 33 (.t 95) (some (.c (.int .i64 1))) none none)), st 1 9 96])) .skip)))
def ac42 : AC := (.seq (.reg [sm 1 (.h (.box (.t 0))), sm 2 (.h (.alloc [zi6]))])
 (.seq (.block 0 (.seq (.reg [fa 13 16 1, ld 14 13, sm 15 (.p (.bin .lss (.t 14) (.c (.int .i64 1)))), mv 16 15, ⟨some 17, .p (.fieldA 16 (.t 1)), (some (16, false))⟩, ⟨some 18, .h (.load false 1 (.t 17)), (some (16, false))⟩, ⟨some 19, .p (.bin .gtr (.t 18) (.c (.int .i64 4))), (some (16, false))⟩, sm 20 (.p (.pick (.t 16) (.c (.bool true)) (.t 19))), mv 12 20])
 (.cond (.t 12) (.seq (.reg [⟨none, .h (.store 1 (.t 2) (.c (.int .i64 1))), none⟩])
 .ret) (.seq (.reg [fa 22 17 1, ld 23 22, sm 24 (.p (.len false (.t 23))), sm 25 (.p (.bin .gtr (.t 24) (.c (.int .i64 4096)))), mv 26 25, ⟨some 27, .p (.fieldA 18 (.t 1)), (some (26, false))⟩, ⟨some 28, .h (.load false 1 (.t 27)), (some (26, false))⟩, ⟨some 29, .p (.len false (.t 28)), (some (26, false))⟩, ⟨some 30, .p (.bin .gtr (.t 29) (.c (.int .i64 256))), (some (26, false))⟩, sm 31 (.p (.pick (.t 26) (.c (.bool true)) (.t 30))), mv 21 31])
 (.cond (.t 21) (.seq (.reg [⟨none, .h (.store 1 (.t 2) (.c (.int .i64 2))), none⟩])
 .ret) .skip)))))
 (.seq (.reg [sm 3 (.h (.alloc [zi6, zi6, zi6, zi6]))])
 (.seq (.seq (.reg [fa 32 17 1, ld 33 32, sm 34 (.p (.len false (.t 33))), sm 35 (.p (.mov (.c zi6)))])
 (.block 1 (.loop (.seq (.reg [sm 36 (.p (.bin .lss (.t 35) (.t 34)))])
 (.seq (.cond (.t 36) .skip (.exit 1))
 (.seq (.block 2 (.seq (.reg [sm 37 (.p (.idxA 5 none (.t 33) (.t 35))), la 38 5 37, sm 5 (.h (.alloc [zi6, zi6, zi6, zi6, (.str .empty)])), st 5 5 38])
 (.seq (.reg [la 39 5 5, fa 40 16 1, ld 41 40, sm 42 (.call 37 [(.t 39), (.t 41)]), sm 43 (.p (.un .not (.t 42))), mv 44 43, ⟨some 45, .h (.load true 5 (.t 5)), (some (44, false))⟩, ⟨some 46, .call 36 [(.t 3), (.t 45)], (some (44, false))⟩, ⟨some 47, .p (.un .not (.t 46)), (some (44, false))⟩, sm 48 (.p (.pick (.t 44) (.c (.bool true)) (.t 47)))])
 (.cond (.t 48) (.seq (.reg [⟨none, .h (.store 1 (.t 2) (.c (.int .i64 3))), none⟩])
 .ret) .skip))))
 (.reg [sm 49 (.p (.bin .add (.t 35) (.c (.int .i64 1)))), mv 35 49])))))))
 (.seq (.reg [sm 6 (.p (.mov (.c zi6)))])
 (.seq (.seq (.reg [fa 50 18 1, ld 51 50, sm 52 (.p (.len false (.t 51))), sm 53 (.p (.mov (.c zi6)))])
 (.block 3 (.loop (.seq (.reg [sm 54 (.p (.bin .lss (.t 53) (.t 52)))])
 (.seq (.cond (.t 54) .skip (.exit 3))
 (.seq (.block 4 (.seq (.reg [sm 55 (.p (.idxA 33 none (.t 51) (.t 53))), la 56 33 55, sm 8 (.h (.alloc [zi6, zu8, zu8, zu8, zu8, zu8, zu8, zu8, zu8, zu8, zu8, zu8, zu8, zu8, zu8, zu8, zu8, zu8, zu8, zu8, zu8, zu8, zu8, zu8, zu8, zu8, zu8, zu8, zu8, zu8, zu8, zu8, zu8])), st 33 8 56])
 (.seq (.seq (.reg [fa 57 0 8, ld 58 57, mv 59 6, sm 60 (.p (.bin .leq (.t 58) (.t 59))), mv 61 60, ⟨some 62, .p (.fieldA 0 (.t 8)), (some (61, false))⟩, ⟨some 63, .h (.load false 1 (.t 62)), (some (61, false))⟩, ⟨some 64, .p (.fieldA 17 (.t 1)), (some (61, false))⟩, ⟨some 65, .h (.load false 1 (.t 64)), (some (61, false))⟩, ⟨some 66, .p (.len false (.t 65)), (some (61, false))⟩, ⟨some 67, .p (.bin .gtr (.t 63) (.t 66)), (some (61, false))⟩, sm 68 (.p (.pick (.t 61) (.c (.bool true)) (.t 67)))])
 (.cond (.t 68) (.seq (.reg [⟨none, .h (.store 1 (.t 2) (.c (.int .i64 3))), none⟩])
 .ret) .skip))
 (.reg [fa 69 0 8, ld 70 69, mv 6 70]))))
 (.reg [sm 71 (.p (.bin .add (.t 53) (.c (.int .i64 1)))), mv 53 71])))))))
 (.seq (.reg [fa 72 18 1, ld 73 72, sm 9 (.h (.alloc [.nils])), st 1 9 73])
 (.seq (.seq (.reg [la 74 19 1, sm 75 (.call 80 [(.t 74)])])
 (.block 5 (.rangeF 420 (.t 75) [2, 9] [76, 77] rfA420 rfB420)))
 (.seq (.reg [⟨none, .h (.store 1 (.t 2) (.c zi6)), none⟩])
 .ret)))))))))
def rs42 : List AR := [.cell 2 false 1]
theorem ok42 : okF Tryz.prog 42 97 ac42 rs42 = true := by kernel_rfl
def ac43 : AC := (.seq (.reg [sm 1 (.h (.box (.t 0))), sm 2 (.p (.mov (.c (.bool false))))])
 (.seq (.reg [fa 4 18 1, ld 5 4, sm 6 (.p (.len false (.t 5))), mv 3 6])
 (.seq (.draw 16 [] [mv 7 3, sm 8 (.p (.bin .gtr (.t 7) (.c zi6))), mv 9 8, ⟨some 10, .p (.fieldA 18 (.t 1)), (some (9, true))⟩, ⟨some 11, .h (.load false 1 (.t 10)), (some (9, true))⟩, ⟨some 12, .p (.mov (.t 3)), (some (9, true))⟩, ⟨some 13, .p (.bin .sub (.t 12) (.c (.int .i64 1))), (some (9, true))⟩, ⟨some 14, .p (.idxA 33 none (.t 11) (.t 13)), (some (9, true))⟩, ⟨some 15, .p (.fieldA 0 (.t 14)), (some (9, true))⟩, ⟨some 16, .h (.load false 1 (.t 15)), (some (9, true))⟩, ⟨some 17, .p (.fieldA 17 (.t 1)), (some (9, true))⟩, ⟨some 18, .h (.load false 1 (.t 17)), (some (9, true))⟩, ⟨some 19, .p (.len false (.t 18)), (some (9, true))⟩, ⟨some 20, .p (.bin .eql (.t 16) (.t 19)), (some (9, true))⟩, sm 21 (.p (.pick (.t 9) (.t 20) (.c (.bool false)))), mv 2 21])
 .ret)))
def rs43 : List AR := [.tmp 2]
theorem ok43 : okF Tryz.prog 43 22 ac43 rs43 = true := by kernel_rfl
def ac44 : AC := (.seq (.reg [sm 1 (.h (.box (.t 0))), sm 2 (.p (.mov (.c .nilf)))])
 (.seq (.reg [sm 3 (.p (.mkfn 82 [(.t 1)])), mv 2 3])
 .ret))
def rs44 : List AR := [.tmp 2]
theorem ok44 : okF Tryz.prog 44 4 ac44 rs44 = true := by kernel_rfl
def ac45 : AC := (.seq (.reg [sm 2 (.h (.box (.t 0))), sm 4 (.h (.alloc [.nils, .nils, zi6, zu3, zu3, zu3, zu3, zu3, zu3, zu3, zu3, zi6, zi6, zi6, zi6, zi6, zi6, (.bool false), (.bool false), (.bool false), (.bool false), zi6, zi6, zi6, zi6, zi6, zi6, zi6, zi6, (.str .empty), zi6, zu3, zu3, zi6, zi6, .nils, .nils, zu3, zu3, zu3, zu3, zi6, zi6, zi6, zi6, .nils, zi6])), sm 5 (.p (.mov (.c zi6))), sm 6 (.p (.mov (.c zi6)))])
 (.seq (.seq (.reg [mv 12 1, sm 13 (.p (.len false (.t 12))), sm 14 (.p (.mov (.c zi6)))])
 (.block 0 (.loop (.seq (.reg [sm 15 (.p (.bin .lss (.t 14) (.t 13)))])
 (.seq (.cond (.t 15) .skip (.exit 0))
 (.seq (.block 1 (.seq (.reg [mv 16 14, sm 17 (.p (.idxA 5 none (.t 12) (.t 14))), la 18 5 17, sm 8 (.h (.alloc [zi6, zi6, zi6, zi6, (.str .empty)])), mv 7 16, st 5 8 18])
 (.seq (.reg [la 20 47 2, la 21 5 8, sm 22 (.call 83 [(.t 20), (.t 21)]), mv 19 22, sm 23 (.p (.extract 0 (.t 19))), sm 24 (.p (.extract 1 (.t 19))), sm 25 (.p (.extract 2 (.t 19))), sm 9 (.h (.alloc [.nils, .nils, zi6, zu3, zu3, zu3, zu3, zu3, zu3, zu3, zu3, zi6, zi6, zi6, zi6, zi6, zi6, (.bool false), (.bool false), (.bool false), (.bool false), zi6, zi6, zi6, zi6, zi6, zi6, zi6, zi6, (.str .empty), zi6, zu3, zu3, zi6, zi6, .nils, .nils, zu3, zu3, zu3, zu3, zi6, zi6, zi6, zi6, .nils, zi6])), st 47 9 23, mv 10 24, mv 11 25])
 (.seq (.seq (.reg [mv 26 11, sm 27 (.p (.bin .neq (.t 26) (.c zi6)))])
 (.cond (.t 27) (.seq (.reg [la 28 47 2, mv 29 7, mv 30 11, st 47 4 28, mv 5 29, mv 6 30])
 .ret) .skip))
 (.reg [la 31 47 9, st 47 2 31])))))
 (.reg [sm 32 (.p (.bin .add (.t 14) (.c (.int .i64 1)))), mv 14 32])))))))
 (.seq (.reg [la 33 47 2, mv 34 1, sm 35 (.p (.len false (.t 34))), st 47 4 33, mv 5 35, sm 6 (.p (.mov (.c zi6)))])
 .ret)))
def rs45 : List AR := [.cell 4 true 47, .tmp 5, .tmp 6]
theorem ok45 : okF Tryz.prog 45 36 ac45 rs45 = true := by kernel_rfl
def ac46 : AC := (.seq (.reg [sm 1 (.h (.box (.t 0))), sm 2 (.h (.alloc [zu8, zu8, zu8, zu8, zu8, zu8, zu8, zu8, zu8, zu8, zu8, zu8, zu8, zu8, zu8, zu8]))])
 (.seq (.reg [la 3 47 1, sm 4 (.call 86 [(.t 3)]), sm 5 (.call 85 [(.t 4)]), sm 6 (.call 84 [(.t 5)]), st 16 2 6])
 .ret))
def rs46 : List AR := [.cell 2 true 16]
theorem ok46 : okF Tryz.prog 46 7 ac46 rs46 = true := by kernel_rfl
def ac47 : AC := (.seq (.reg [sm 2 (.p (.mov (.c .nils)))])
 (.seq (.seq (.reg [mv 3 0, sm 4 (.nq false (.t 3))])
 (.cond (.t 4) (.seq (.reg [sm 2 (.p (.mov (.c .nils)))])
 .ret) .skip))
 (.seq (.reg [sm 5 (.l (.bslice 5 0 [zi6, zi6, zi6, zi6, (.str .empty)] [])), mv 6 0, sm 7 (.l (.append 5 48 (.t 5) (.t 6))), mv 2 7])
 .ret)))
def rs47 : List AR := [.tmp 2]
theorem ok47 : okF Tryz.prog 47 8 ac47 rs47 = true := by kernel_rfl
def ac48 : AC := (.seq (.reg [sm 2 (.h (.box (.t 0))), sm 4 (.p (.mov (.c zi6))), sm 5 (.p (.mov (.c zi6)))])
 (.seq (.seq (.reg [fa 8 18 2, ld 9 8, sm 10 (.p (.len false (.t 9))), sm 11 (.p (.mov (.c zi6)))])
 (.block 0 (.loop (.seq (.reg [sm 12 (.p (.bin .lss (.t 11) (.t 10)))])
 (.seq (.cond (.t 12) .skip (.exit 0))
 (.seq (.block 1 (.seq (.reg [sm 13 (.p (.idxA 33 none (.t 9) (.t 11))), la 14 33 13, sm 7 (.h (.alloc [zi6, zu8, zu8, zu8, zu8, zu8, zu8, zu8, zu8, zu8, zu8, zu8, zu8, zu8, zu8, zu8, zu8, zu8, zu8, zu8, zu8, zu8, zu8, zu8, zu8, zu8, zu8, zu8, zu8, zu8, zu8, zu8, zu8])), st 33 7 14])
 (.seq (.draw 9 [] [fa 15 17 7, la 16 16 15, mv 17 1, fa 18 1 7, la 19 16 18, fa 20 0 7, ld 21 20, sm 22 (.call 40 [(.t 17), (.t 19), (.t 21)]), sm 23 (.v (.eqa true [(.i .u8), (.i .u8), (.i .u8), (.i .u8), (.i .u8), (.i .u8), (.i .u8), (.i .u8), (.i .u8), (.i .u8), (.i .u8), (.i .u8), (.i .u8), (.i .u8), (.i .u8), (.i .u8)] (.t 16) (.t 22)))])
 (.cond (.t 23) (.seq (.reg [sm 4 (.p (.mov (.c zi6))), sm 5 (.p (.mov (.c (.int .i64 8))))])
 .ret) .skip))))
 (.reg [sm 24 (.p (.bin .add (.t 11) (.c (.int .i64 1)))), mv 11 24])))))))
 (.seq (.reg [la 25 19 2, sm 26 (.call 38 [(.t 25)]), mv 4 26, sm 5 (.p (.mov (.c zi6)))])
 .ret)))
def rs48 : List AR := [.tmp 4, .tmp 5]
theorem ok48 : okF Tryz.prog 48 27 ac48 rs48 = true := by kernel_rfl
end Go.Proofs

set_option maxRecDepth 100000
namespace Go.Proofs
open Go Go.Eng
def ac49 : AC := (.seq (.reg [sm 1 (.h (.box (.t 0))), sm 2 (.p (.mov (.c (.bool false))))])
 (.seq (.reg [sm 8 (.p (.mkfn 87 [(.t 1)])), sm 9 (.p (.mkfn 88 [(.t 1)])), sm 10 (.p (.mkfn 89 [(.t 1)])), sm 11 (.p (.mkfn 91 [(.t 1)])), sm 12 (.v (.build [.nilf, .nilf, .nilf, .nilf] [(0, 1, (.t 8)), (1, 1, (.t 9)), (2, 1, (.t 10)), (3, 1, (.t 11))])), sm 3 (.h (.alloc [.nilf, .nilf, .nilf, .nilf])), st 4 3 12])
 (.seq (.seq (.reg [la 13 4 3, sm 14 (.p (.mov (.c zi6)))])
 (.block 0 (.loop (.seq (.reg [sm 15 (.p (.bin .lss (.t 14) (.c (.int .i64 4))))])
 (.seq (.cond (.t 15) .skip (.exit 0))
 (.seq (.block 1 (.seq (.reg [sm 16 (.v (.idx false 1 4 (.t 13) (.t 14))), mv 5 16])
 (.seq (.reg [mv 17 5, sm 18 (.callv (.t 17) []), sm 19 (.p (.un .not (.t 18)))])
 (.cond (.t 19) (.seq (.reg [sm 2 (.p (.mov (.c (.bool false))))])
 .ret) .skip))))
 (.reg [sm 20 (.p (.bin .add (.t 14) (.c (.int .i64 1)))), mv 14 20])))))))
 (.seq (.seq (.reg [fa 21 21 1, ld 22 21, sm 23 (.p (.len false (.t 22))), sm 24 (.p (.mov (.c zi6)))])
 (.block 2 (.loop (.seq (.reg [sm 25 (.p (.bin .lss (.t 24) (.t 23)))])
 (.seq (.cond (.t 25) .skip (.exit 2))
 (.seq (.block 3 (.seq (.reg [mv 26 24, sm 27 (.p (.idxA 5 none (.t 22) (.t 24))), la 28 5 27, sm 7 (.h (.alloc [zi6, zi6, zi6, zi6, (.str .empty)])), mv 6 26, st 5 7 28])
 (.seq (.reg [fa 29 0 7, ld 30 29, mv 31 6, sm 32 (.p (.bin .neq (.t 30) (.t 31))), mv 33 32, ⟨some 34, .p (.fieldA 3 (.t 7)), (some (33, false))⟩, ⟨some 35, .h (.load false 1 (.t 34)), (some (33, false))⟩, ⟨some 36, .p (.bin .lss (.t 35) (.c zi6)), (some (33, false))⟩, sm 37 (.p (.pick (.t 33) (.c (.bool true)) (.t 36))), mv 38 37, ⟨some 39, .p (.fieldA 3 (.t 7)), (some (38, false))⟩, ⟨some 40, .h (.load false 1 (.t 39)), (some (38, false))⟩, ⟨some 41, .p (.bin .gtr (.t 40) (.c (.int .i64 1099511627776))), (some (38, false))⟩, sm 42 (.p (.pick (.t 38) (.c (.bool true)) (.t 41))), mv 43 42, ⟨some 44, .p (.fieldA 2 (.t 7)), (some (43, false))⟩, ⟨some 45, .h (.load false 1 (.t 44)), (some (43, false))⟩, ⟨some 46, .p (.bin .lss (.t 45) (.c zi6)), (some (43, false))⟩, sm 47 (.p (.pick (.t 43) (.c (.bool true)) (.t 46))), mv 48 47, ⟨some 49, .p (.fieldA 2 (.t 7)), (some (48, false))⟩, ⟨some 50, .h (.load false 1 (.t 49)), (some (48, false))⟩, ⟨some 51, .p (.fieldA 0 (.t 1)), (some (48, false))⟩, ⟨some 52, .p (.fieldA 16 (.t 51)), (some (48, false))⟩, ⟨some 53, .h (.load false 1 (.t 52)), (some (48, false))⟩, ⟨some 54, .p (.bin .geq (.t 50) (.t 53)), (some (48, false))⟩, sm 55 (.p (.pick (.t 48) (.c (.bool true)) (.t 54)))])
 (.cond (.t 55) (.seq (.reg [sm 2 (.p (.mov (.c (.bool false))))])
 .ret) .skip))))
 (.reg [sm 56 (.p (.bin .add (.t 24) (.c (.int .i64 1)))), mv 24 56])))))))
 (.seq (.reg [sm 2 (.p (.mov (.c (.bool true))))])
 .ret)))))
def rs49 : List AR := [.tmp 2]
theorem ok49 : okF Tryz.prog 49 57 ac49 rs49 = true := by kernel_rfl
def ac50 : AC := (.seq (.reg [sm 4 (.h (.box (.t 0))), sm 6 (.h (.box (.t 2))), sm 7 (.h (.box (.t 3))), sm 8 (.h (.alloc [.nils, .nils, zi6, zu3, zu3, zu3, zu3, zu3, zu3, zu3, zu3, zi6, zi6, zi6, zi6, zi6, zi6, (.bool false), (.bool false), (.bool false), (.bool false), zi6, zi6, zi6, zi6, zi6, zi6, zi6, zi6, (.str .empty), zi6, zu3, zu3, zi6, zi6, .nils, .nils, zu3, zu3, zu3, zu3, zi6, zi6, zi6, zi6, .nils, zi6])), sm 9 (.h (.alloc [zi6, zi6]))])
 (.seq (.reg [fa 17 0 4, la 18 19 17, mv 19 1, sm 20 (.call 52 [(.t 18), (.t 19)]), mv 16 20, sm 21 (.p (.extract 0 (.t 16))), sm 22 (.p (.extract 1 (.t 16))), sm 10 (.h (.alloc [zi6, zi6])), st 2 10 21, mv 11 22])
 (.seq (.seq (.draw 4 [] [la 23 47 7, sm 24 (.call 46 [(.t 23)]), la 25 16 6, sm 26 (.v (.eqa true [(.i .u8), (.i .u8), (.i .u8), (.i .u8), (.i .u8), (.i .u8), (.i .u8), (.i .u8), (.i .u8), (.i .u8), (.i .u8), (.i .u8), (.i .u8), (.i .u8), (.i .u8), (.i .u8)] (.t 24) (.t 25)))])
 (.cond (.t 26) (.seq (.reg [la 27 47 7, mv 28 1, sm 29 (.v (.build [zi6, zi6] [(0, 1, (.c (.int .i64 2))), (1, 1, (.t 28))])), st 47 8 27, st 2 9 29])
 .ret) .skip))
 (.seq (.draw 18 [(14, 15), (9, 15), (0, 15), (3, 15), (5, 15), (7, 15)] [la 31 47 7, fa 32 0 4, fa 33 17 32, ld 34 33, fa 35 0 10, ld 36 35, fa 37 1 10, ld 38 37, sm 39 (.v (.sub 5 (.t 34) (some (.t 36)) (some (.t 38)) none)), sm 40 (.call 45 [(.t 31), (.t 39)]), mv 30 40, sm 41 (.p (.extract 0 (.t 30))), sm 42 (.p (.extract 1 (.t 30))), sm 43 (.p (.extract 2 (.t 30))), sm 12 (.h (.alloc [.nils, .nils, zi6, zu3, zu3, zu3, zu3, zu3, zu3, zu3, zu3, zi6, zi6, zi6, zi6, zi6, zi6, (.bool false), (.bool false), (.bool false), (.bool false), zi6, zi6, zi6, zi6, zi6, zi6, zi6, zi6, (.str .empty), zi6, zu3, zu3, zi6, zi6, .nils, .nils, zu3, zu3, zu3, zu3, zi6, zi6, zi6, zi6, .nils, zi6])), st 47 12 41, mv 13 42, mv 14 43])
 (.seq (.seq (.reg [mv 44 14, sm 45 (.p (.bin .neq (.t 44) (.c zi6)))])
 (.cond (.t 45) (.seq (.draw 8 [(0, 6), (6, 7), (0, 7), (2, 7)] [la 46 47 7, fa 47 0 10, ld 48 47, mv 49 13, sm 50 (.p (.bin .add (.t 48) (.t 49))), sm 51 (.v (.build [zi6, zi6] [(0, 1, (.c (.int .i64 3))), (1, 1, (.t 50))])), st 47 8 46, st 2 9 51])
 .ret) .skip))
 (.seq (.seq (.reg [la 52 22 4, mv 53 1, la 54 47 7, la 55 47 12, sm 56 (.call 92 [(.t 52), (.t 53), (.t 54), (.t 55)]), mv 15 56])
 (.seq (.reg [mv 57 15, sm 58 (.p (.bin .geq (.t 57) (.c zi6)))])
 (.cond (.t 58) (.seq (.reg [la 59 47 7, mv 60 15, sm 61 (.v (.build [zi6, zi6] [(0, 1, (.c (.int .i64 4))), (1, 1, (.t 60))])), st 47 8 59, st 2 9 61])
 .ret) .skip)))
 (.seq (.seq (.draw 8 [] [la 62 47 12, sm 63 (.call 46 [(.t 62)]), fa 64 19 4, ld 65 64, mv 66 1, sm 67 (.p (.idxA 16 none (.t 65) (.t 66))), la 68 16 67, sm 69 (.v (.eqa true [(.i .u8), (.i .u8), (.i .u8), (.i .u8), (.i .u8), (.i .u8), (.i .u8), (.i .u8), (.i .u8), (.i .u8), (.i .u8), (.i .u8), (.i .u8), (.i .u8), (.i .u8), (.i .u8)] (.t 63) (.t 68)))])
 (.cond (.t 69) (.seq (.reg [la 70 47 7, mv 71 1, sm 72 (.v (.build [zi6, zi6] [(0, 1, (.c (.int .i64 5))), (1, 1, (.t 71))])), st 47 8 70, st 2 9 72])
 .ret) .skip))
 (.seq (.reg [la 73 47 12, mv 74 1, sm 75 (.v (.build [zi6, zi6] [(0, 1, (.c (.int .i64 1))), (1, 1, (.t 74))])), st 47 8 73, st 2 9 75])
 .ret))))))))
def rs50 : List AR := [.cell 8 true 47, .cell 9 true 2]
theorem ok50 : okF Tryz.prog 50 76 ac50 rs50 = true := by kernel_rfl
def ac51 : AC := (.seq (.reg [sm 3 (.h (.box (.t 0))), sm 4 (.h (.box (.t 1))), sm 6 (.h (.alloc [zu8, zu8, zu8, zu8, zu8, zu8, zu8, zu8, zu8, zu8, zu8, zu8, zu8, zu8, zu8, zu8]))])
 (.seq (.seq (.reg [mv 9 2, sm 10 (.p (.bin .gtr (.t 9) (.c zi6)))])
 (.cond (.t 10) (.seq (.reg [fa 11 19 4, ld 12 11, mv 13 2, sm 14 (.p (.bin .sub (.t 13) (.c (.int .i64 1)))), sm 15 (.p (.idxA 16 none (.t 12) (.t 14))), la 16 16 15, st 16 6 16])
 .ret) .skip))
 (.seq (.reg [la 18 4 3, fa 19 0 4, fa 20 16 19, ld 21 20, sm 22 (.call 25 [(.t 18), (.t 21)]), mv 17 22, sm 23 (.p (.extract 0 (.t 17))), sm 24 (.p (.extract 1 (.t 17))), sm 7 (.h (.alloc [.nils, .nils, zi6, zu3, zu3, zu3, zu3, zu3, zu3, zu3, zu3, zi6, zi6, zi6, zi6, zi6, zi6, (.bool false), (.bool false), (.bool false), (.bool false), zi6, zi6, zi6, zi6, zi6, zi6, zi6, zi6, (.str .empty), zi6, zu3, zu3, zi6, zi6, .nils, .nils, zu3, zu3, zu3, zu3, zi6, zi6, zi6, zi6, .nils, zi6])), st 47 7 23, mv 8 24])
 (.seq (.reg [la 25 47 7, sm 26 (.call 46 [(.t 25)]), st 16 6 26])
 .ret))))
def rs51 : List AR := [.cell 6 true 16]
theorem ok51 : okF Tryz.prog 51 27 ac51 rs51 = true := by kernel_rfl
def rfA520 : AC := (.seq (.reg [mv 6 10])
 (.reg [sm 7 (.h (.alloc [zi6, zi6])), st 2 7 11]))
def rfB520 : AC := (.block 1 (.seq (.reg [mv 12 6, ld 13 3, sm 14 (.p (.bin .eql (.t 12) (.t 13)))])
 (.cond (.t 14) (.seq (.reg [la 15 2 7, st 2 4 15, ⟨none, .h (.store 1 (.t 5) (.c (.bool true))), none⟩])
 .ret) .skip)))
def ac52 : AC := (.seq (.reg [sm 2 (.h (.box (.t 0))), sm 3 (.h (.box (.t 1))), sm 4 (.h (.alloc [zi6, zi6])), sm 5 (.h (.alloc [(.bool false)]))])
 (.seq (.seq (.reg [la 8 19 2, sm 9 (.call 44 [(.t 8)])])
 (.block 0 (.rangeF 520 (.t 9) [3, 4, 5] [10, 11] rfA520 rfB520)))
 (.seq (.reg [sm 16 (.v (.build [zi6, zi6] [])), st 2 4 16, ⟨none, .h (.store 1 (.t 5) (.c (.bool false))), none⟩])
 .ret)))
def rs52 : List AR := [.cell 4 true 2, .cell 5 false 1]
theorem ok52 : okF Tryz.prog 52 17 ac52 rs52 = true := by kernel_rfl
def ac53 : AC := (.seq (.reg [sm 1 (.h (.box (.t 0))), sm 2 (.p (.mov (.c (.bool false))))])
 (.seq (.seq (.reg [fa 7 0 1, ld 8 7, sm 9 (.p (.len false (.t 8))), sm 10 (.p (.bin .lss (.t 9) (.c (.int .i64 1)))), mv 11 10, ⟨some 12, .p (.fieldA 0 (.t 1)), (some (11, false))⟩, ⟨some 13, .h (.load false 1 (.t 12)), (some (11, false))⟩, ⟨some 14, .p (.len false (.t 13)), (some (11, false))⟩, ⟨some 15, .p (.bin .gtr (.t 14) (.c (.int .i64 4))), (some (11, false))⟩, sm 16 (.p (.pick (.t 11) (.c (.bool true)) (.t 15))), mv 17 16, ⟨some 18, .p (.fieldA 0 (.t 1)), (some (17, false))⟩, ⟨some 19, .h (.load false 1 (.t 18)), (some (17, false))⟩, ⟨some 20, .p (.len false (.t 19)), (some (17, false))⟩, ⟨some 21, .p (.fieldA 2 (.t 1)), (some (17, false))⟩, ⟨some 22, .p (.fieldA 0 (.t 21)), (some (17, false))⟩, ⟨some 23, .p (.fieldA 0 (.t 22)), (some (17, false))⟩, ⟨some 24, .h (.load false 1 (.t 23)), (some (17, false))⟩, ⟨some 25, .p (.bin .neq (.t 20) (.t 24)), (some (17, false))⟩, sm 26 (.p (.pick (.t 17) (.c (.bool true)) (.t 25))), mv 27 26, ⟨some 28, .p (.fieldA 1 (.t 1)), (some (27, false))⟩, ⟨some 29, .h (.load true 1 (.t 28)), (some (27, false))⟩, ⟨some 30, .call 93 [(.t 29)], (some (27, false))⟩, ⟨some 31, .p (.un .not (.t 30)), (some (27, false))⟩, sm 32 (.p (.pick (.t 27) (.c (.bool true)) (.t 31))), mv 33 32, ⟨some 34, .p (.fieldA 2 (.t 1)), (some (33, false))⟩, ⟨some 35, .h (.load true 43 (.t 34)), (some (33, false))⟩, ⟨some 36, .p (.fieldA 1 (.t 1)), (some (33, false))⟩, ⟨some 37, .h (.load true 1 (.t 36)), (some (33, false))⟩, ⟨some 38, .call 94 [(.t 35), (.t 37)], (some (33, false))⟩, ⟨some 39, .p (.un .not (.t 38)), (some (33, false))⟩, sm 40 (.p (.pick (.t 33) (.c (.bool true)) (.t 39)))])
 (.cond (.t 40) (.seq (.reg [sm 2 (.p (.mov (.c (.bool false))))])
 .ret) .skip))
 (.seq (.seq (.reg [fa 41 0 1, ld 42 41, sm 43 (.p (.len false (.t 42))), sm 44 (.p (.mov (.c zi6)))])
 (.block 0 (.loop (.seq (.reg [sm 45 (.p (.bin .lss (.t 44) (.t 43)))])
 (.seq (.cond (.t 45) .skip (.exit 0))
 (.seq (.block 1 (.seq (.reg [mv 46 44, sm 47 (.p (.idxA 30 none (.t 42) (.t 44))), la 48 30 47, sm 4 (.h (.alloc [zu3, zu3, zu3, zu3, zu3, zu3, zu3, zu3, zu3, zu3, zu3, zu3, zu3, zu3, zu3, zu3, zu3, zu3, zu3, zu3, zu3, zu3, zu3, zu3, zu3, zu3, (.bool false), (.bool false), (.bool false), zi6])), mv 3 46, st 30 4 48])
 (.seq (.reg [la 49 30 4, sm 50 (.call 95 [(.t 49)]), sm 51 (.p (.un .not (.t 50))), mv 52 51, ⟨some 53, .p (.fieldA 17 (.t 4)), (some (52, false))⟩, ⟨some 54, .p (.idxA 1 (some 9) (.t 53) (.c (.int .i64 8))), (some (52, false))⟩, ⟨some 55, .h (.load false 1 (.t 54)), (some (52, false))⟩, ⟨some 56, .p (.mov (.t 3)), (some (52, false))⟩, ⟨some 57, .p (.convw .u32 (.t 56)), (some (52, false))⟩, ⟨some 58, .p (.binw .neq (.t 55) (.t 57)), (some (52, false))⟩, sm 59 (.p (.pick (.t 52) (.c (.bool true)) (.t 58)))])
 (.cond (.t 59) (.seq (.reg [sm 2 (.p (.mov (.c (.bool false))))])
 .ret) .skip))))
 (.reg [sm 60 (.p (.bin .add (.t 44) (.c (.int .i64 1)))), mv 44 60])))))))
 (.seq (.seq (.reg [fa 61 45 1, ld 62 61, sm 63 (.p (.len false (.t 62))), sm 64 (.p (.mov (.c zi6)))])
 (.block 2 (.loop (.seq (.reg [sm 65 (.p (.bin .lss (.t 64) (.t 63)))])
 (.seq (.cond (.t 65) .skip (.exit 2))
 (.seq (.block 3 (.seq (.reg [mv 66 64, sm 67 (.p (.idxA 5 none (.t 62) (.t 64))), la 68 5 67, sm 6 (.h (.alloc [zi6, zi6, zi6, zi6, (.str .empty)])), mv 5 66, st 5 6 68])
 (.seq (.reg [fa 69 0 6, ld 70 69, fa 71 46 1, ld 72 71, fa 73 45 1, ld 74 73, sm 75 (.p (.len false (.t 74))), sm 76 (.p (.bin .sub (.t 72) (.t 75))), mv 77 5, sm 78 (.p (.bin .add (.t 76) (.t 77))), sm 79 (.p (.bin .neq (.t 70) (.t 78))), mv 80 79, ⟨some 81, .h (.load true 5 (.t 6)), (some (80, false))⟩, ⟨some 82, .p (.fieldA 0 (.t 1)), (some (80, false))⟩, ⟨some 83, .h (.load false 1 (.t 82)), (some (80, false))⟩, ⟨some 84, .p (.len false (.t 83)), (some (80, false))⟩, ⟨some 85, .call 96 [(.t 81), (.t 84)], (some (80, false))⟩, ⟨some 86, .p (.un .not (.t 85)), (some (80, false))⟩, sm 87 (.p (.pick (.t 80) (.c (.bool true)) (.t 86)))])
 (.cond (.t 87) (.seq (.reg [sm 2 (.p (.mov (.c (.bool false))))])
 .ret) .skip))))
 (.reg [sm 88 (.p (.bin .add (.t 64) (.c (.int .i64 1)))), mv 64 88])))))))
 (.seq (.reg [fa 89 46 1, ld 90 89, fa 91 45 1, ld 92 91, sm 93 (.p (.len false (.t 92))), sm 94 (.p (.bin .geq (.t 90) (.t 93))), mv 95 94, ⟨some 96, .p (.fieldA 46 (.t 1)), (some (95, true))⟩, ⟨some 97, .h (.load false 1 (.t 96)), (some (95, true))⟩, ⟨some 98, .p (.bin .leq (.t 97) (.c (.int .i64 1125899906842624))), (some (95, true))⟩, sm 99 (.p (.pick (.t 95) (.t 98) (.c (.bool false)))), mv 2 99])
 .ret)))))
def rs53 : List AR := [.tmp 2]
theorem ok53 : okF Tryz.prog 53 100 ac53 rs53 = true := by kernel_rfl
def ac54 : AC := (.seq (.reg [sm 2 (.h (.box (.t 0))), sm 4 (.p (.mov (.c .nils))), sm 5 (.p (.mov (.c zi6)))])
 (.seq (.seq (.reg [la 10 4 2, sm 11 (.call 41 [(.t 10)]), mv 6 11])
 (.seq (.reg [mv 12 6, sm 13 (.p (.bin .neq (.t 12) (.c zi6)))])
 (.cond (.t 13) (.seq (.reg [mv 14 6, sm 4 (.p (.mov (.c .nils))), mv 5 14])
 .ret) .skip)))
 (.seq (.seq (.reg [mv 15 1, sm 16 (.p (.bin .lss (.t 15) (.c (.int .i64 1)))), mv 17 16, ⟨some 18, .p (.mov (.t 1)), (some (17, false))⟩, ⟨some 19, .p (.bin .gtr (.t 18) (.c (.int .i64 4))), (some (17, false))⟩, sm 20 (.p (.pick (.t 17) (.c (.bool true)) (.t 19)))])
 (.cond (.t 20) (.seq (.reg [sm 4 (.p (.mov (.c .nils))), sm 5 (.p (.mov (.c (.int .i64 1))))])
 .ret) .skip))
 (.seq (.reg [sm 7 (.p (.mov (.c .nils)))])
 (.seq (.seq (.reg [mv 21 1, sm 22 (.p (.mov (.c zi6)))])
 (.block 0 (.loop (.seq (.reg [sm 23 (.p (.bin .lss (.t 22) (.t 21)))])
 (.seq (.cond (.t 23) .skip (.exit 0))
 (.seq (.block 1 (.seq (.reg [mv 24 22, mv 8 24])
 (.seq (.reg [fa 25 0 2, ld 26 25, sm 27 (.p (.convw .u32 (.t 26))), mv 28 8, sm 29 (.p (.bin .gtr (.t 28) (.c zi6))), sm 30 (.v (.build [zu3, zu3, zu3, zu3, zu3, zu3, zu3, zu3, zu3, zu3, zu3, zu3, zu3, zu3, zu3, zu3, zu3, zu3, zu3, zu3, zu3, zu3, zu3, zu3, zu3, zu3, (.bool false), (.bool false), (.bool false), zi6] [(0, 1, (.t 27)), (27, 1, (.t 29))])), sm 9 (.h (.alloc [zu3, zu3, zu3, zu3, zu3, zu3, zu3, zu3, zu3, zu3, zu3, zu3, zu3, zu3, zu3, zu3, zu3, zu3, zu3, zu3, zu3, zu3, zu3, zu3, zu3, zu3, (.bool false), (.bool false), (.bool false), zi6])), st 30 9 30])
 (.seq (.reg [mv 31 8, sm 32 (.p (.convw .u32 (.t 31))), fa 33 17 9, sm 34 (.p (.idxA 1 (some 9) (.t 33) (.c (.int .i64 8)))), st 1 34 32])
 (.reg [mv 35 7, la 36 30 9, sm 37 (.d (.bslice 30 1 [zu3, zu3, zu3, zu3, zu3, zu3, zu3, zu3, zu3, zu3, zu3, zu3, zu3, zu3, zu3, zu3, zu3, zu3, zu3, zu3, zu3, zu3, zu3, zu3, zu3, zu3, (.bool false), (.bool false), (.bool false), zi6] [(0, (.t 36))])), sm 38 (.l (.append 30 120 (.t 35) (.t 37))), mv 7 38])))))
 (.reg [sm 39 (.p (.bin .add (.t 22) (.c (.int .i64 1)))), mv 22 39])))))))
 (.seq (.reg [mv 40 7, mv 4 40, sm 5 (.p (.mov (.c zi6)))])
 .ret))))))
def rs54 : List AR := [.tmp 4, .tmp 5]
theorem ok54 : okF Tryz.prog 54 41 ac54 rs54 = true := by kernel_rfl
def ac55 : AC := (.seq (.reg [sm 1 (.h (.box (.t 0))), sm 2 (.h (.alloc [.nils])), sm 3 (.p (.mov (.c zi6)))])
 (.seq (.seq (.reg [la 9 4 1, sm 10 (.call 41 [(.t 9)]), mv 4 10])
 (.seq (.reg [mv 11 4, sm 12 (.p (.bin .neq (.t 11) (.c zi6)))])
 (.cond (.t 12) (.seq (.reg [sm 13 (.v (.build [.nils] [])), mv 14 4, st 1 2 13, mv 3 14])
 .ret) .skip)))
 (.seq (.reg [fa 16 1 1, ld 17 16, sm 18 (.call 97 [(.t 17)]), mv 15 18, sm 19 (.p (.extract 0 (.t 15))), sm 20 (.p (.extract 1 (.t 15))), sm 5 (.h (.alloc [.nils])), st 1 5 19, mv 6 20])
 (.seq (.seq (.reg [fa 21 2 1, ld 22 21, sm 23 (.p (.len false (.t 22))), sm 24 (.p (.mov (.c zi6)))])
 (.block 0 (.loop (.seq (.reg [sm 25 (.p (.bin .lss (.t 24) (.t 23)))])
 (.seq (.cond (.t 25) .skip (.exit 0))
 (.seq (.block 1 (.seq (.reg [sm 26 (.p (.idxA 2 none (.t 22) (.t 24))), la 27 2 26, sm 8 (.h (.alloc [zi6, (.str .empty)])), st 2 8 27])
 (.reg [la 29 1 5, fa 30 0 8, ld 31 30, fa 32 1 8, ld 33 32, sm 34 (.call 98 [(.t 29), (.t 31), (.t 33)]), mv 28 34, sm 35 (.p (.extract 0 (.t 28))), sm 36 (.p (.extract 1 (.t 28))), st 1 5 35])))
 (.reg [sm 37 (.p (.bin .add (.t 24) (.c (.int .i64 1)))), mv 24 37])))))))
 (.seq (.reg [la 38 1 5, mv 39 6, st 1 2 38, mv 3 39])
 .ret)))))
def rs55 : List AR := [.cell 2 true 1, .tmp 3]
theorem ok55 : okF Tryz.prog 55 40 ac55 rs55 = true := by kernel_rfl
def ac56 : AC := (.seq (.reg [sm 4 (.h (.alloc [zi6, zu3, zu3, zu3, zu3, zu3, zu3, zu3, zu3, zi6, zi6, zi6, zi6, zi6, zi6, (.bool false), (.bool false), (.bool false), (.bool false), zi6, zi6, zi6, zi6, zi6, zi6, zi6, zi6, (.str .empty), zi6, zu3, zu3, zi6, zi6, .nils, .nils, zu3, zu3, zu3, zu3, zi6, zi6, zi6, zi6])), sm 5 (.p (.mov (.c zi6)))])
 (.seq (.reg [mv 10 0, sm 11 (.call 99 [(.t 10)]), mv 9 11, sm 12 (.p (.extract 0 (.t 9))), sm 13 (.p (.extract 1 (.t 9))), sm 6 (.h (.alloc [zi6, zu3, zu3, zu3, zu3, zu3, zu3, zu3, zu3, zi6, zi6, zi6, zi6, zi6])), st 14 6 12, mv 7 13])
 (.seq (.seq (.reg [mv 14 7, sm 15 (.p (.bin .neq (.t 14) (.c zi6)))])
 (.cond (.t 15) (.seq (.reg [sm 16 (.v (.build [zi6, zu3, zu3, zu3, zu3, zu3, zu3, zu3, zu3, zi6, zi6, zi6, zi6, zi6, zi6, (.bool false), (.bool false), (.bool false), (.bool false), zi6, zi6, zi6, zi6, zi6, zi6, zi6, zi6, (.str .empty), zi6, zu3, zu3, zi6, zi6, .nils, .nils, zu3, zu3, zu3, zu3, zi6, zi6, zi6, zi6] [])), mv 17 7, st 43 4 16, mv 5 17])
 .ret) .skip))
 (.seq (.reg [mv 19 1, sm 20 (.call 100 [(.t 19)]), mv 18 20, sm 21 (.p (.extract 0 (.t 18))), sm 22 (.p (.extract 1 (.t 18))), sm 8 (.h (.alloc [zu3, zu3, zi6, zi6, .nils, .nils])), st 6 8 21, mv 7 22])
 (.seq (.seq (.reg [mv 23 7, sm 24 (.p (.bin .neq (.t 23) (.c zi6)))])
 (.cond (.t 24) (.seq (.reg [sm 25 (.v (.build [zi6, zu3, zu3, zu3, zu3, zu3, zu3, zu3, zu3, zi6, zi6, zi6, zi6, zi6, zi6, (.bool false), (.bool false), (.bool false), (.bool false), zi6, zi6, zi6, zi6, zi6, zi6, zi6, zi6, (.str .empty), zi6, zu3, zu3, zi6, zi6, .nils, .nils, zu3, zu3, zu3, zu3, zi6, zi6, zi6, zi6] [])), mv 26 7, st 43 4 25, mv 5 26])
 .ret) .skip))
 (.seq (.reg [la 27 14 6, la 28 6 8, sm 29 (.v (.build [zi6, zu3, zu3, zu3, zu3, zu3, zu3, zu3, zu3, zi6, zi6, zi6, zi6, zi6, zi6, (.bool false), (.bool false), (.bool false), (.bool false), zi6, zi6, zi6, zi6, zi6, zi6, zi6, zi6, (.str .empty), zi6, zu3, zu3, zi6, zi6, .nils, .nils, zu3, zu3, zu3, zu3, zi6, zi6, zi6, zi6] [(0, 14, (.t 27)), (29, 6, (.t 28))])), st 43 4 29, sm 5 (.p (.mov (.c zi6)))])
 .ret))))))
def rs56 : List AR := [.cell 4 true 43, .tmp 5]
theorem ok56 : okF Tryz.prog 56 30 ac56 rs56 = true := by kernel_rfl
def ac57 : AC := (.seq (.reg [⟨some 2, .h (.box (.t 0)), none⟩,
 ⟨some 4, .h (.alloc [(.int .u32 0), (.int .u32 0), (.int .u32 0), (.int .u32 0), (.int .u32 0), (.int .u32 0), (.int .u32 0), (.int .u32 0)]), none⟩])
 (.seq (.reg [⟨some 13, .p (.mov (.t 1)), none⟩,
   ⟨some 14, .call 101 [(.t 13)], none⟩,
   ⟨some 5, .h (.alloc [(.int .u32 0), (.int .u32 0), (.int .u32 0), (.int .u32 0), (.int .u32 0), (.int .u32 0), (.int .u32 0), (.int .u32 0), (.int .u32 0), (.int .u32 0), (.int .u32 0), (.int .u32 0), (.int .u32 0), (.int .u32 0), (.int .u32 0), (.int .u32 0), (.int .u32 0), (.int .u32 0), (.int .u32 0), (.int .u32 0), (.int .u32 0), (.int .u32 0), (.int .u32 0), (.int .u32 0), (.int .u32 0), (.int .u32 0), (.int .u32 0), (.int .u32 0), (.int .u32 0), (.int .u32 0), (.int .u32 0), (.int .u32 0), (.int .u32 0), (.int .u32 0), (.int .u32 0), (.int .u32 0), (.int .u32 0), (.int .u32 0), (.int .u32 0), (.int .u32 0), (.int .u32 0), (.int .u32 0), (.int .u32 0), (.int .u32 0), (.int .u32 0), (.int .u32 0), (.int .u32 0), (.int .u32 0), (.int .u32 0), (.int .u32 0), (.int .u32 0), (.int .u32 0), (.int .u32 0), (.int .u32 0), (.int .u32 0), (.int .u32 0), (.int .u32 0), (.int .u32 0), (.int .u32 0), (.int .u32 0), (.int .u32 0), (.int .u32 0), (.int .u32 0), (.int .u32 0)]), none⟩,
   ⟨none, .h (.store 64 (.t 5) (.t 14)), none⟩])
 (.seq (.draw 10 [(6, 8), (2, 8), (0, 8), (7, 8), (7, 9), (5, 9), (8, 9), (0, 9), (2, 9), (3, 9), (6, 9)] [⟨some 15, .d (.asub 1 8 (.t 2) none (some (.c (.int .i64 4)))), none⟩,
   ⟨some 16, .v (.s2a 4 (.t 15)), none⟩,
   ⟨some 17, .h (.load true 4 (.t 16)), none⟩,
   ⟨some 18, .d (.asub 1 8 (.t 2) (some (.c (.int .i64 4))) none), none⟩,
   ⟨some 19, .v (.s2a 4 (.t 18)), none⟩,
   ⟨some 20, .h (.load true 4 (.t 19)), none⟩,
   ⟨some 6, .h (.alloc [(.int .u32 0), (.int .u32 0), (.int .u32 0), (.int .u32 0)]), none⟩,
   ⟨some 7, .h (.alloc [(.int .u32 0), (.int .u32 0), (.int .u32 0), (.int .u32 0)]), none⟩,
   ⟨none, .h (.store 4 (.t 6) (.t 17)), none⟩,
   ⟨none, .h (.store 4 (.t 7) (.t 20)), none⟩])
 (.seq (.seq (.reg [⟨some 21, .h (.load true 64 (.g 0)), none⟩,
   ⟨some 22, .p (.mov (.c (.int .i64 0))), none⟩])
 (.block 0 (.loop (.seq (.reg [⟨some 23, .p (.bin .lss (.t 22) (.c (.int .i64 64))), none⟩])
 (.seq (.cond (.t 23) .skip (.exit 0))
 (.seq (.block 1 (.seq (.reg [⟨some 24, .p (.mov (.t 22)), none⟩,
   ⟨some 25, .v (.idx false 1 64 (.t 21) (.t 22)), none⟩,
   ⟨some 8, .p (.mov (.t 24)), none⟩,
   ⟨some 9, .p (.mov (.t 25)), none⟩])
 (.seq (.draw 26 [] [⟨some 26, .p (.idxA 1 (some 4) (.t 7) (.c (.int .i64 3))), none⟩,
   ⟨some 27, .h (.load false 1 (.t 26)), none⟩,
   ⟨some 28, .p (.idxA 1 (some 4) (.t 7) (.c (.int .i64 0))), none⟩,
   ⟨some 29, .h (.load false 1 (.t 28)), none⟩,
   ⟨some 30, .call 102 [(.t 29), (.c (.int .i64 6)), (.c (.int .i64 11)), (.c (.int .i64 25))], none⟩,
   ⟨some 31, .p (.binw .add (.t 27) (.t 30)), none⟩,
   ⟨some 32, .p (.idxA 1 (some 4) (.t 7) (.c (.int .i64 0))), none⟩,
   ⟨some 33, .h (.load false 1 (.t 32)), none⟩,
   ⟨some 34, .p (.idxA 1 (some 4) (.t 7) (.c (.int .i64 1))), none⟩,
   ⟨some 35, .h (.load false 1 (.t 34)), none⟩,
   ⟨some 36, .p (.binw .and (.t 33) (.t 35)), none⟩,
   ⟨some 37, .p (.idxA 1 (some 4) (.t 7) (.c (.int .i64 0))), none⟩,
   ⟨some 38, .h (.load false 1 (.t 37)), none⟩,
   ⟨some 39, .p (.un .xor (.t 38)), none⟩,
   ⟨some 40, .p (.idxA 1 (some 4) (.t 7) (.c (.int .i64 2))), none⟩,
   ⟨some 41, .h (.load false 1 (.t 40)), none⟩,
   ⟨some 42, .p (.binw .and (.t 39) (.t 41)), none⟩,
   ⟨some 43, .p (.binw .xor (.t 36) (.t 42)), none⟩,
   ⟨some 44, .p (.binw .add (.t 31) (.t 43)), none⟩,
   ⟨some 45, .p (.mov (.t 9)), none⟩,
   ⟨some 46, .p (.binw .add (.t 44) (.t 45)), none⟩,
   ⟨some 47, .p (.mov (.t 8)), none⟩,
   ⟨some 48, .p (.idxA 1 (some 64) (.t 5) (.t 47)), none⟩,
   ⟨some 49, .h (.load false 1 (.t 48)), none⟩,
   ⟨some 50, .p (.binw .add (.t 46) (.t 49)), none⟩,
   ⟨some 10, .p (.mov (.t 50)), none⟩])
 (.seq (.draw 22 [] [⟨some 51, .p (.idxA 1 (some 4) (.t 6) (.c (.int .i64 0))), none⟩,
   ⟨some 52, .h (.load false 1 (.t 51)), none⟩,
   ⟨some 53, .call 102 [(.t 52), (.c (.int .i64 2)), (.c (.int .i64 13)), (.c (.int .i64 22))], none⟩,
   ⟨some 54, .p (.idxA 1 (some 4) (.t 6) (.c (.int .i64 0))), none⟩,
   ⟨some 55, .h (.load false 1 (.t 54)), none⟩,
   ⟨some 56, .p (.idxA 1 (some 4) (.t 6) (.c (.int .i64 1))), none⟩,
   ⟨some 57, .h (.load false 1 (.t 56)), none⟩,
   ⟨some 58, .p (.binw .and (.t 55) (.t 57)), none⟩,
   ⟨some 59, .p (.idxA 1 (some 4) (.t 6) (.c (.int .i64 0))), none⟩,
   ⟨some 60, .h (.load false 1 (.t 59)), none⟩,
   ⟨some 61, .p (.idxA 1 (some 4) (.t 6) (.c (.int .i64 2))), none⟩,
   ⟨some 62, .h (.load false 1 (.t 61)), none⟩,
   ⟨some 63, .p (.binw .and (.t 60) (.t 62)), none⟩,
   ⟨some 64, .p (.binw .xor (.t 58) (.t 63)), none⟩,
   ⟨some 65, .p (.idxA 1 (some 4) (.t 6) (.c (.int .i64 1))), none⟩,
   ⟨some 66, .h (.load false 1 (.t 65)), none⟩,
   ⟨some 67, .p (.idxA 1 (some 4) (.t 6) (.c (.int .i64 2))), none⟩,
   ⟨some 68, .h (.load false 1 (.t 67)), none⟩,
   ⟨some 69, .p (.binw .and (.t 66) (.t 68)), none⟩,
   ⟨some 70, .p (.binw .xor (.t 64) (.t 69)), none⟩,
   ⟨some 71, .p (.binw .add (.t 53) (.t 70)), none⟩,
   ⟨some 11, .p (.mov (.t 71)), none⟩])
 (.seq (.reg [⟨some 72, .p (.idxA 1 (some 4) (.t 6) (.c (.int .i64 3))), none⟩,
   ⟨some 73, .h (.load false 1 (.t 72)), none⟩,
   ⟨some 74, .p (.mov (.t 10)), none⟩,
   ⟨some 75, .p (.binw .add (.t 73) (.t 74)), none⟩,
   ⟨some 76, .p (.idxA 1 (some 4) (.t 7) (.c (.int .i64 0))), none⟩,
   ⟨some 77, .h (.load false 1 (.t 76)), none⟩,
   ⟨some 78, .p (.idxA 1 (some 4) (.t 7) (.c (.int .i64 1))), none⟩,
   ⟨some 79, .h (.load false 1 (.t 78)), none⟩,
   ⟨some 80, .p (.idxA 1 (some 4) (.t 7) (.c (.int .i64 2))), none⟩,
   ⟨some 81, .h (.load false 1 (.t 80)), none⟩,
   ⟨some 82, .v (.build [(.int .u32 0), (.int .u32 0), (.int .u32 0), (.int .u32 0)] [(0, 1, (.t 75)), (1, 1, (.t 77)), (2, 1, (.t 79)), (3, 1, (.t 81))]), none⟩,
   ⟨none, .h (.store 4 (.t 7) (.t 82)), none⟩])
 (.reg [⟨some 83, .p (.mov (.t 10)), none⟩,
   ⟨some 84, .p (.mov (.t 11)), none⟩,
   ⟨some 85, .p (.binw .add (.t 83) (.t 84)), none⟩,
   ⟨some 86, .p (.idxA 1 (some 4) (.t 6) (.c (.int .i64 0))), none⟩,
   ⟨some 87, .h (.load false 1 (.t 86)), none⟩,
   ⟨some 88, .p (.idxA 1 (some 4) (.t 6) (.c (.int .i64 1))), none⟩,
   ⟨some 89, .h (.load false 1 (.t 88)), none⟩,
   ⟨some 90, .p (.idxA 1 (some 4) (.t 6) (.c (.int .i64 2))), none⟩,
   ⟨some 91, .h (.load false 1 (.t 90)), none⟩,
   ⟨some 92, .v (.build [(.int .u32 0), (.int .u32 0), (.int .u32 0), (.int .u32 0)] [(0, 1, (.t 85)), (1, 1, (.t 87)), (2, 1, (.t 89)), (3, 1, (.t 91))]), none⟩,
   ⟨none, .h (.store 4 (.t 6) (.t 92)), none⟩]))))))
 (.reg [⟨some 93, .p (.bin .add (.t 22) (.c (.int .i64 1))), none⟩,
   ⟨some 22, .p (.mov (.t 93)), none⟩])))))))
 (.seq (.seq (.reg [⟨some 94, .p (.mov (.c (.int .i64 0))), none⟩])
 (.block 2 (.loop (.seq (.reg [⟨some 95, .p (.bin .lss (.t 94) (.c (.int .i64 4))), none⟩])
 (.seq (.cond (.t 95) .skip (.exit 2))
 (.seq (.block 3 (.seq (.reg [⟨some 96, .p (.mov (.t 94)), none⟩,
   ⟨some 12, .p (.mov (.t 96)), none⟩])
 (.seq (.draw 9 [(2, 8), (5, 8)] [⟨some 97, .p (.mov (.t 12)), none⟩,
   ⟨some 98, .p (.idxA 1 (some 8) (.t 2) (.t 97)), none⟩,
   ⟨some 99, .h (.load false 1 (.t 98)), none⟩,
   ⟨some 100, .p (.mov (.t 12)), none⟩,
   ⟨some 101, .p (.idxA 1 (some 4) (.t 6) (.t 100)), none⟩,
   ⟨some 102, .h (.load false 1 (.t 101)), none⟩,
   ⟨some 103, .p (.binw .add (.t 99) (.t 102)), none⟩,
   ⟨some 104, .p (.idxA 1 (some 8) (.t 2) (.t 97)), none⟩,
   ⟨none, .h (.store 1 (.t 104) (.t 103)), none⟩])
 (.draw 10 [(3, 9), (6, 9)] [⟨some 105, .p (.mov (.t 12)), none⟩,
   ⟨some 106, .p (.bin .add (.t 105) (.c (.int .i64 4))), none⟩,
   ⟨some 107, .p (.idxA 1 (some 8) (.t 2) (.t 106)), none⟩,
   ⟨some 108, .h (.load false 1 (.t 107)), none⟩,
   ⟨some 109, .p (.mov (.t 12)), none⟩,
   ⟨some 110, .p (.idxA 1 (some 4) (.t 7) (.t 109)), none⟩,
   ⟨some 111, .h (.load false 1 (.t 110)), none⟩,
   ⟨some 112, .p (.binw .add (.t 108) (.t 111)), none⟩,
   ⟨some 113, .p (.idxA 1 (some 8) (.t 2) (.t 106)), none⟩,
   ⟨none, .h (.store 1 (.t 113) (.t 112)), none⟩]))))
 (.reg [⟨some 114, .p (.bin .add (.t 94) (.c (.int .i64 1))), none⟩,
   ⟨some 94, .p (.mov (.t 114)), none⟩])))))))
 (.seq (.reg [⟨some 115, .h (.load true 8 (.t 2)), none⟩,
   ⟨none, .h (.store 8 (.t 4) (.t 115)), none⟩])
 .ret))))))
def rs57 : List AR := [.cell 4 true 8]
theorem ok57 : okF Tryz.prog 57 116 ac57 rs57 = true := by kernel_rfl
def ac58 : AC := (.seq (.reg [mv 8 1, sm 9 (.p (.bin .add (.t 8) (.c (.int .i64 1)))), mv 6 9])
 (.block 0 (.loop (.seq (.seq (.reg [mv 10 6, mv 11 2, sm 12 (.p (.bin .lss (.t 10) (.t 11)))])
 (.cond (.t 12) .skip (.exit 0)))
 (.seq (.block 1 (.seq (.reg [mv 15 6, mv 7 15])
 (.block 2 (.loop (.seq (.seq (.draw 15 [] [mv 16 7, mv 17 1, sm 18 (.p (.bin .gtr (.t 16) (.t 17))), mv 19 18, ⟨some 20, .p (.mov (.t 0)), (some (19, true))⟩, ⟨some 21, .p (.mov (.t 7)), (some (19, true))⟩, ⟨some 22, .p (.idxA 1 none (.t 20) (.t 21)), (some (19, true))⟩, ⟨some 23, .h (.load false 1 (.t 22)), (some (19, true))⟩, ⟨some 24, .p (.mov (.t 0)), (some (19, true))⟩, ⟨some 25, .p (.mov (.t 7)), (some (19, true))⟩, ⟨some 26, .p (.bin .sub (.t 25) (.c (.int .i64 1))), (some (19, true))⟩, ⟨some 27, .p (.idxA 1 none (.t 24) (.t 26)), (some (19, true))⟩, ⟨some 28, .h (.load false 1 (.t 27)), (some (19, true))⟩, ⟨some 29, .call 64 [(.t 23), (.t 28)], (some (19, true))⟩, sm 30 (.p (.pick (.t 19) (.t 29) (.c (.bool false))))])
 (.cond (.t 30) .skip (.exit 2)))
 (.seq (.block 3 (.draw 18 [(9, 15), (13, 15), (13, 17), (15, 17), (9, 17)] [mv 33 0, mv 34 7, mv 35 0, mv 36 7, sm 37 (.p (.bin .sub (.t 36) (.c (.int .i64 1)))), mv 38 0, mv 39 7, sm 40 (.p (.bin .sub (.t 39) (.c (.int .i64 1)))), sm 41 (.p (.idxA 1 none (.t 38) (.t 40))), ld 42 41, mv 43 0, mv 44 7, sm 45 (.p (.idxA 1 none (.t 43) (.t 44))), ld 46 45, sm 47 (.p (.idxA 1 none (.t 33) (.t 34))), st 1 47 42, sm 48 (.p (.idxA 1 none (.t 35) (.t 37))), st 1 48 46]))
 (.reg [mv 31 7, sm 32 (.p (.bin .sub (.t 31) (.c (.int .i64 1)))), mv 7 32])))))))
 (.reg [mv 13 6, sm 14 (.p (.bin .add (.t 13) (.c (.int .i64 1)))), mv 6 14]))))))
def rs58 : List AR := []
theorem ok58 : okF Tryz.prog 58 49 ac58 rs58 = true := by kernel_rfl
def ac64 : AC := (.seq (.reg [sm 4 (.p (.mov (.c (.bool false))))])
 (.seq (.reg [mv 5 0, sm 6 (.call 108 [(.t 5)]), mv 7 6, ⟨some 8, .p (.mov (.t 1)), (some (7, true))⟩, ⟨some 9, .call 108 [(.t 8)], (some (7, true))⟩, ⟨some 10, .p (.un .not (.t 9)), (some (7, true))⟩, sm 11 (.p (.pick (.t 7) (.t 10) (.c (.bool false)))), mv 12 11, ⟨some 13, .p (.mov (.t 0)), (some (12, false))⟩, ⟨some 14, .p (.mov (.t 1)), (some (12, false))⟩, ⟨some 15, .p (.bin .lss (.t 13) (.t 14)), (some (12, false))⟩, sm 16 (.p (.pick (.t 12) (.c (.bool true)) (.t 15))), mv 4 16])
 .ret))
def rs64 : List AR := [.tmp 4]
theorem ok64 : okF Tryz.prog 64 17 ac64 rs64 = true := by kernel_rfl
def ac68 : AC := (.seq (.reg [sm 2 (.p (.mov (.c zi6)))])
 (.seq (.seq (.reg [mv 3 0, sm 4 (.p (.binw .geq (.t 3) (.c (.int .u64 4294967296))))])
 (.cond (.t 4) (.seq (.reg [mv 5 0, sm 6 (.p (.binw .shr (.t 5) (.c (.int .u64 32)))), mv 0 6])
 (.reg [sm 2 (.p (.mov (.c (.int .i64 32))))])) .skip))
 (.seq (.seq (.reg [mv 7 0, sm 8 (.p (.binw .geq (.t 7) (.c (.int .u64 65536))))])
 (.cond (.t 8) (.seq (.reg [mv 9 0, sm 10 (.p (.binw .shr (.t 9) (.c (.int .u64 16)))), mv 0 10])
 (.reg [mv 11 2, sm 12 (.p (.bin .add (.t 11) (.c (.int .i64 16)))), mv 2 12])) .skip))
 (.seq (.seq (.reg [mv 13 0, sm 14 (.p (.binw .geq (.t 13) (.c (.int .u64 256))))])
 (.cond (.t 14) (.seq (.reg [mv 15 0, sm 16 (.p (.binw .shr (.t 15) (.c (.int .u64 8)))), mv 0 16])
 (.reg [mv 17 2, sm 18 (.p (.bin .add (.t 17) (.c (.int .i64 8)))), mv 2 18])) .skip))
 (.seq (.reg [mv 19 2, mv 20 0, sm 21 (.p (.convw .u8 (.t 20))), ⟨some 22, .v (.sidx (.c (.str ⟨#[0, 1, 2, 2, 3, 3, 3, 3, 4, 4, 4, 4, 4, 4, 4, 4, 5, 5, 5, 5, 5, 5, 5, 5, 5, 5, 5, 5, 5, 5, 5, 5, 6, 6, 6, 6, 6, 6, 6, 6, 6, 6, 6, 6, 6, 6, 6, 6, 6, 6, 6, 6, 6, 6, 6, 6, 6, 6, 6, 6, 6, 6, 6, 6, 7, 7, 7, 7, 7, 7, 7, 7, 7, 7, 7, 7, 7, 7, 7, 7, 7, 7, 7, 7, 7, 7, 7, 7, 7, 7, 7, 7, 7, 7, 7, 7, 7, 7, 7, 7, 7, 7, 7, 7, 7, 7, 7, 7, 7, 7, 7, 7, 7, 7, 7, 7, 7, 7, 7, 7, 7, 7, 7, 7, 7, 7, 7, 7, 8, 8, 8, 8, 8, 8, 8, 8, 8, 8, 8, 8, 8, 8, 8, 8, 8, 8, 8, 8, 8, 8, 8, 8, 8, 8, 8, 8, 8, 8, 8, 8, 8, 8, 8, 8, 8, 8, 8, 8, 8, 8, 8, 8, 8, 8, 8, 8, 8, 8, 8, 8, 8, 8, 8, 8, 8, 8, 8, 8, 8, 8, 8, 8, 8, 8, 8, 8, 8, 8, 8, 8, 8, 8, 8, 8, 8, 8, 8, 8, 8, 8, 8, 8, 8, 8, 8, 8, 8, 8, 8, 8, 8, 8, 8, 8, 8, 8, 8, 8, 8, 8, 8, 8, 8, 8, 8, 8, 8, 8, 8, 8, 8, 8, 8, 8, 8, 8, 8, 8, 8, 8, 8, 8, 8, 8, 8, 8]⟩)) (.t 21)), none⟩, sm 23 (.p (.conv .i64 (.t 22))), sm 24 (.p (.bin .add (.t 19) (.t 23))), mv 2 24])
 .ret)))))
def rs68 : List AR := [.tmp 2]
theorem ok68 : okF Tryz.prog 68 25 ac68 rs68 = true := by kernel_rfl
def ac69 : AC := (.seq (.reg [⟨some 2, .h (.alloc [(.int .u8 0), (.int .u8 0), (.int .u8 0), (.int .u8 0), (.int .u8 0), (.int .u8 0), (.int .u8 0), (.int .u8 0), (.int .u8 0), (.int .u8 0), (.int .u8 0), (.int .u8 0), (.int .u8 0), (.int .u8 0), (.int .u8 0), (.int .u8 0), (.int .u8 0), (.int .u8 0), (.int .u8 0), (.int .u8 0), (.int .u8 0), (.int .u8 0), (.int .u8 0), (.int .u8 0), (.int .u8 0), (.int .u8 0), (.int .u8 0), (.int .u8 0), (.int .u8 0), (.int .u8 0), (.int .u8 0), (.int .u8 0)]), none⟩])
 (.seq (.reg [⟨some 14, .v (.build [(.int .u32 0), (.int .u32 0), (.int .u32 0), (.int .u32 0), (.int .u32 0), (.int .u32 0), (.int .u32 0), (.int .u32 0)] [(0, 1, (.c (.int .u32 1779033703))), (1, 1, (.c (.int .u32 3144134277))), (2, 1, (.c (.int .u32 1013904242))), (3, 1, (.c (.int .u32 2773480762))), (4, 1, (.c (.int .u32 1359893119))), (5, 1, (.c (.int .u32 2600822924))), (6, 1, (.c (.int .u32 528734635))), (7, 1, (.c (.int .u32 1541459225)))]), none⟩,
   ⟨some 3, .h (.alloc [(.int .u32 0), (.int .u32 0), (.int .u32 0), (.int .u32 0), (.int .u32 0), (.int .u32 0), (.int .u32 0), (.int .u32 0)]), none⟩,
   ⟨none, .h (.store 8 (.t 3) (.t 14)), none⟩])
 (.seq (.reg [⟨some 15, .p (.mov (.t 0)), none⟩,
   ⟨some 16, .call 109 [(.t 15)], none⟩,
   ⟨some 4, .p (.mov (.t 16)), none⟩])
 (.seq (.seq (.reg [⟨some 5, .p (.mov (.c (.int .i64 0))), none⟩])
 (.block 0 (.loop (.seq (.seq (.reg [⟨some 17, .p (.mov (.t 5)), none⟩,
   ⟨some 18, .p (.mov (.t 4)), none⟩,
   ⟨some 19, .p (.len false (.t 18)), none⟩,
   ⟨some 20, .p (.bin .lss (.t 17) (.t 19)), none⟩])
 (.cond (.t 20) .skip (.exit 0)))
 (.seq (.block 1 (.seq (.reg [⟨some 23, .p (.mov (.t 4)), none⟩,
   ⟨some 24, .p (.mov (.t 5)), none⟩,
   ⟨some 25, .p (.mov (.t 5)), none⟩,
   ⟨some 26, .p (.bin .add (.t 25) (.c (.int .i64 64))), none⟩,
   ⟨some 27, .v (.sub 1 (.t 23) (some (.t 24)) (some (.t 26)) none), none⟩,
   ⟨some 28, .call 110 [(.t 27)], none⟩,
   ⟨some 6, .h (.alloc [(.int .u32 0), (.int .u32 0), (.int .u32 0), (.int .u32 0), (.int .u32 0), (.int .u32 0), (.int .u32 0), (.int .u32 0), (.int .u32 0), (.int .u32 0), (.int .u32 0), (.int .u32 0), (.int .u32 0), (.int .u32 0), (.int .u32 0), (.int .u32 0), (.int .u32 0), (.int .u32 0), (.int .u32 0), (.int .u32 0), (.int .u32 0), (.int .u32 0), (.int .u32 0), (.int .u32 0), (.int .u32 0), (.int .u32 0), (.int .u32 0), (.int .u32 0), (.int .u32 0), (.int .u32 0), (.int .u32 0), (.int .u32 0), (.int .u32 0), (.int .u32 0), (.int .u32 0), (.int .u32 0), (.int .u32 0), (.int .u32 0), (.int .u32 0), (.int .u32 0), (.int .u32 0), (.int .u32 0), (.int .u32 0), (.int .u32 0), (.int .u32 0), (.int .u32 0), (.int .u32 0), (.int .u32 0), (.int .u32 0), (.int .u32 0), (.int .u32 0), (.int .u32 0), (.int .u32 0), (.int .u32 0), (.int .u32 0), (.int .u32 0), (.int .u32 0), (.int .u32 0), (.int .u32 0), (.int .u32 0), (.int .u32 0), (.int .u32 0), (.int .u32 0), (.int .u32 0)]), none⟩,
   ⟨none, .h (.store 64 (.t 6) (.t 28)), none⟩])
 (.seq (.reg [⟨some 29, .h (.load true 8 (.t 3)), none⟩,
   ⟨some 7, .h (.alloc [(.int .u32 0), (.int .u32 0), (.int .u32 0), (.int .u32 0), (.int .u32 0), (.int .u32 0), (.int .u32 0), (.int .u32 0)]), none⟩,
   ⟨none, .h (.store 8 (.t 7) (.t 29)), none⟩])
 (.seq (.seq (.reg [⟨some 8, .p (.mov (.c (.int .i64 0))), none⟩])
 (.block 2 (.loop (.seq (.seq (.reg [⟨some 30, .p (.mov (.t 8)), none⟩,
   ⟨some 31, .p (.bin .lss (.t 30) (.c (.int .i64 64))), none⟩])
 (.cond (.t 31) .skip (.exit 2)))
 (.seq (.block 3 (.seq (.draw 36 [] [⟨some 34, .p (.idxA 1 (some 8) (.t 7) (.c (.int .i64 7))), none⟩,
   ⟨some 35, .h (.load false 1 (.t 34)), none⟩,
   ⟨some 36, .p (.idxA 1 (some 8) (.t 7) (.c (.int .i64 4))), none⟩,
   ⟨some 37, .h (.load false 1 (.t 36)), none⟩,
   ⟨some 38, .call 111 [(.t 37), (.c (.int .i64 6))], none⟩,
   ⟨some 39, .p (.idxA 1 (some 8) (.t 7) (.c (.int .i64 4))), none⟩,
   ⟨some 40, .h (.load false 1 (.t 39)), none⟩,
   ⟨some 41, .call 111 [(.t 40), (.c (.int .i64 11))], none⟩,
   ⟨some 42, .p (.binw .xor (.t 38) (.t 41)), none⟩,
   ⟨some 43, .p (.idxA 1 (some 8) (.t 7) (.c (.int .i64 4))), none⟩,
   ⟨some 44, .h (.load false 1 (.t 43)), none⟩,
   ⟨some 45, .call 111 [(.t 44), (.c (.int .i64 25))], none⟩,
   ⟨some 46, .p (.binw .xor (.t 42) (.t 45)), none⟩,
   ⟨some 47, .p (.binw .add (.t 35) (.t 46)), none⟩,
   ⟨some 48, .p (.idxA 1 (some 8) (.t 7) (.c (.int .i64 4))), none⟩,
   ⟨some 49, .h (.load false 1 (.t 48)), none⟩,
   ⟨some 50, .p (.idxA 1 (some 8) (.t 7) (.c (.int .i64 5))), none⟩,
   ⟨some 51, .h (.load false 1 (.t 50)), none⟩,
   ⟨some 52, .p (.binw .and (.t 49) (.t 51)), none⟩,
   ⟨some 53, .p (.idxA 1 (some 8) (.t 7) (.c (.int .i64 4))), none⟩,
   ⟨some 54, .h (.load false 1 (.t 53)), none⟩,
   ⟨some 55, .p (.binw .xor (.t 54) (.c (.int .u32 4294967295))), none⟩,
   ⟨some 56, .p (.idxA 1 (some 8) (.t 7) (.c (.int .i64 6))), none⟩,
   ⟨some 57, .h (.load false 1 (.t 56)), none⟩,
   ⟨some 58, .p (.binw .and (.t 55) (.t 57)), none⟩,
   ⟨some 59, .p (.binw .xor (.t 52) (.t 58)), none⟩,
   ⟨some 60, .p (.binw .add (.t 47) (.t 59)), none⟩,
   ⟨some 61, .p (.mov (.t 8)), none⟩,
   ⟨some 62, .p (.idxA 1 (some 64) (.g 1) (.t 61)), none⟩,
   ⟨some 63, .h (.load false 1 (.t 62)), none⟩,
   ⟨some 64, .p (.binw .add (.t 60) (.t 63)), none⟩,
   ⟨some 65, .p (.mov (.t 8)), none⟩,
   ⟨some 66, .p (.idxA 1 (some 64) (.t 6) (.t 65)), none⟩,
   ⟨some 67, .h (.load false 1 (.t 66)), none⟩,
   ⟨some 68, .p (.binw .add (.t 64) (.t 67)), none⟩,
   ⟨some 9, .p (.mov (.t 68)), none⟩])
 (.seq (.draw 30 [] [⟨some 69, .p (.idxA 1 (some 8) (.t 7) (.c (.int .i64 0))), none⟩,
   ⟨some 70, .h (.load false 1 (.t 69)), none⟩,
   ⟨some 71, .call 111 [(.t 70), (.c (.int .i64 2))], none⟩,
   ⟨some 72, .p (.idxA 1 (some 8) (.t 7) (.c (.int .i64 0))), none⟩,
   ⟨some 73, .h (.load false 1 (.t 72)), none⟩,
   ⟨some 74, .call 111 [(.t 73), (.c (.int .i64 13))], none⟩,
   ⟨some 75, .p (.binw .xor (.t 71) (.t 74)), none⟩,
   ⟨some 76, .p (.idxA 1 (some 8) (.t 7) (.c (.int .i64 0))), none⟩,
   ⟨some 77, .h (.load false 1 (.t 76)), none⟩,
   ⟨some 78, .call 111 [(.t 77), (.c (.int .i64 22))], none⟩,
   ⟨some 79, .p (.binw .xor (.t 75) (.t 78)), none⟩,
   ⟨some 80, .p (.idxA 1 (some 8) (.t 7) (.c (.int .i64 0))), none⟩,
   ⟨some 81, .h (.load false 1 (.t 80)), none⟩,
   ⟨some 82, .p (.idxA 1 (some 8) (.t 7) (.c (.int .i64 1))), none⟩,
   ⟨some 83, .h (.load false 1 (.t 82)), none⟩,
   ⟨some 84, .p (.binw .and (.t 81) (.t 83)), none⟩,
   ⟨some 85, .p (.idxA 1 (some 8) (.t 7) (.c (.int .i64 0))), none⟩,
   ⟨some 86, .h (.load false 1 (.t 85)), none⟩,
   ⟨some 87, .p (.idxA 1 (some 8) (.t 7) (.c (.int .i64 2))), none⟩,
   ⟨some 88, .h (.load false 1 (.t 87)), none⟩,
   ⟨some 89, .p (.binw .and (.t 86) (.t 88)), none⟩,
   ⟨some 90, .p (.binw .xor (.t 84) (.t 89)), none⟩,
   ⟨some 91, .p (.idxA 1 (some 8) (.t 7) (.c (.int .i64 1))), none⟩,
   ⟨some 92, .h (.load false 1 (.t 91)), none⟩,
   ⟨some 93, .p (.idxA 1 (some 8) (.t 7) (.c (.int .i64 2))), none⟩,
   ⟨some 94, .h (.load false 1 (.t 93)), none⟩,
   ⟨some 95, .p (.binw .and (.t 92) (.t 94)), none⟩,
   ⟨some 96, .p (.binw .xor (.t 90) (.t 95)), none⟩,
   ⟨some 97, .p (.binw .add (.t 79) (.t 96)), none⟩,
   ⟨some 10, .p (.mov (.t 97)), none⟩])
 (.reg [⟨some 98, .p (.mov (.t 9)), none⟩,
   ⟨some 99, .p (.mov (.t 10)), none⟩,
   ⟨some 100, .p (.binw .add (.t 98) (.t 99)), none⟩,
   ⟨some 101, .p (.idxA 1 (some 8) (.t 7) (.c (.int .i64 0))), none⟩,
   ⟨some 102, .h (.load false 1 (.t 101)), none⟩,
   ⟨some 103, .p (.idxA 1 (some 8) (.t 7) (.c (.int .i64 1))), none⟩,
   ⟨some 104, .h (.load false 1 (.t 103)), none⟩,
   ⟨some 105, .p (.idxA 1 (some 8) (.t 7) (.c (.int .i64 2))), none⟩,
   ⟨some 106, .h (.load false 1 (.t 105)), none⟩,
   ⟨some 107, .p (.idxA 1 (some 8) (.t 7) (.c (.int .i64 3))), none⟩,
   ⟨some 108, .h (.load false 1 (.t 107)), none⟩,
   ⟨some 109, .p (.mov (.t 9)), none⟩,
   ⟨some 110, .p (.binw .add (.t 108) (.t 109)), none⟩,
   ⟨some 111, .p (.idxA 1 (some 8) (.t 7) (.c (.int .i64 4))), none⟩,
   ⟨some 112, .h (.load false 1 (.t 111)), none⟩,
   ⟨some 113, .p (.idxA 1 (some 8) (.t 7) (.c (.int .i64 5))), none⟩,
   ⟨some 114, .h (.load false 1 (.t 113)), none⟩,
   ⟨some 115, .p (.idxA 1 (some 8) (.t 7) (.c (.int .i64 6))), none⟩,
   ⟨some 116, .h (.load false 1 (.t 115)), none⟩,
   ⟨some 117, .v (.build [(.int .u32 0), (.int .u32 0), (.int .u32 0), (.int .u32 0), (.int .u32 0), (.int .u32 0), (.int .u32 0), (.int .u32 0)] [(0, 1, (.t 100)), (1, 1, (.t 102)), (2, 1, (.t 104)), (3, 1, (.t 106)), (4, 1, (.t 110)), (5, 1, (.t 112)), (6, 1, (.t 114)), (7, 1, (.t 116))]), none⟩,
   ⟨none, .h (.store 8 (.t 7) (.t 117)), none⟩]))))
 (.reg [⟨some 32, .p (.mov (.t 8)), none⟩,
   ⟨some 33, .p (.bin .add (.t 32) (.c (.int .i64 1))), none⟩,
   ⟨some 8, .p (.mov (.t 33)), none⟩]))))))
 (.seq (.reg [⟨some 11, .p (.mov (.c (.int .i64 0))), none⟩])
 (.block 4 (.loop (.seq (.seq (.reg [⟨some 118, .p (.mov (.t 11)), none⟩,
   ⟨some 119, .p (.bin .lss (.t 118) (.c (.int .i64 8))), none⟩])
 (.cond (.t 119) .skip (.exit 4)))
 (.seq (.block 5 (.draw 10 [(3, 9), (6, 9)] [⟨some 122, .p (.mov (.t 11)), none⟩,
   ⟨some 123, .p (.mov (.t 11)), none⟩,
   ⟨some 124, .p (.idxA 1 (some 8) (.t 3) (.t 123)), none⟩,
   ⟨some 125, .h (.load false 1 (.t 124)), none⟩,
   ⟨some 126, .p (.mov (.t 11)), none⟩,
   ⟨some 127, .p (.idxA 1 (some 8) (.t 7) (.t 126)), none⟩,
   ⟨some 128, .h (.load false 1 (.t 127)), none⟩,
   ⟨some 129, .p (.binw .add (.t 125) (.t 128)), none⟩,
   ⟨some 130, .p (.idxA 1 (some 8) (.t 3) (.t 122)), none⟩,
   ⟨none, .h (.store 1 (.t 130) (.t 129)), none⟩]))
 (.reg [⟨some 120, .p (.mov (.t 11)), none⟩,
   ⟨some 121, .p (.bin .add (.t 120) (.c (.int .i64 1))), none⟩,
   ⟨some 11, .p (.mov (.t 121)), none⟩]))))))))))
 (.reg [⟨some 21, .p (.mov (.t 5)), none⟩,
   ⟨some 22, .p (.bin .add (.t 21) (.c (.int .i64 64))), none⟩,
   ⟨some 5, .p (.mov (.t 22)), none⟩]))))))
 (.seq (.reg [⟨some 12, .h (.alloc [(.int .u8 0), (.int .u8 0), (.int .u8 0), (.int .u8 0), (.int .u8 0), (.int .u8 0), (.int .u8 0), (.int .u8 0), (.int .u8 0), (.int .u8 0), (.int .u8 0), (.int .u8 0), (.int .u8 0), (.int .u8 0), (.int .u8 0), (.int .u8 0), (.int .u8 0), (.int .u8 0), (.int .u8 0), (.int .u8 0), (.int .u8 0), (.int .u8 0), (.int .u8 0), (.int .u8 0), (.int .u8 0), (.int .u8 0), (.int .u8 0), (.int .u8 0), (.int .u8 0), (.int .u8 0), (.int .u8 0), (.int .u8 0)]), none⟩])
 (.seq (.seq (.reg [⟨some 13, .p (.mov (.c (.int .i64 0))), none⟩])
 (.block 6 (.loop (.seq (.seq (.reg [⟨some 131, .p (.mov (.t 13)), none⟩,
   ⟨some 132, .p (.bin .lss (.t 131) (.c (.int .i64 32))), none⟩])
 (.cond (.t 132) .skip (.exit 6)))
 (.seq (.block 7 (.reg [⟨some 135, .p (.mov (.t 13)), none⟩,
   ⟨some 136, .p (.mov (.t 13)), none⟩,
   ⟨some 137, .p (.bin .quo (.t 136) (.c (.int .i64 4))), none⟩,
   ⟨some 138, .p (.idxA 1 (some 8) (.t 3) (.t 137)), none⟩,
   ⟨some 139, .h (.load false 1 (.t 138)), none⟩,
   ⟨some 140, .p (.mov (.t 13)), none⟩,
   ⟨some 141, .p (.bin .rem (.t 140) (.c (.int .i64 4))), none⟩,
   ⟨some 142, .p (.bin .mul (.c (.int .i64 8)) (.t 141)), none⟩,
   ⟨some 143, .p (.bin .sub (.c (.int .i64 24)) (.t 142)), none⟩,
   ⟨some 144, .p (.binw .shr (.t 139) (.t 143)), none⟩,
   ⟨some 145, .p (.convw .u8 (.t 144)), none⟩,
   ⟨some 146, .p (.idxA 1 (some 32) (.t 12) (.t 135)), none⟩,
   ⟨none, .h (.store 1 (.t 146) (.t 145)), none⟩]))
 (.reg [⟨some 133, .p (.mov (.t 13)), none⟩,
   ⟨some 134, .p (.bin .add (.t 133) (.c (.int .i64 1))), none⟩,
   ⟨some 13, .p (.mov (.t 134)), none⟩]))))))
 (.seq (.reg [⟨some 147, .h (.load true 32 (.t 12)), none⟩,
   ⟨none, .h (.store 32 (.t 2) (.t 147)), none⟩])
 .ret)))))))
def rs69 : List AR := [.cell 2 true 32]
theorem ok69 : okF Tryz.prog 69 148 ac69 rs69 = true := by kernel_rfl
def ac70 : AC := (.seq (.reg [⟨some 2, .p (.mov (.c .nils)), none⟩])
 (.seq (.reg [⟨some 3, .p (.mov (.t 0)), none⟩,
   ⟨some 4, .p (.len true (.t 3)), none⟩,
   ⟨some 5, .call 13 [(.t 4)], none⟩,
   ⟨some 6, .p (.mov (.t 0)), none⟩,
   ⟨some 7, .l (.appendS 1 (.t 5) (.t 6)), none⟩,
   ⟨some 2, .p (.mov (.t 7)), none⟩])
 .ret))
def rs70 : List AR := [.tmp 2]
theorem ok70 : okF Tryz.prog 70 8 ac70 rs70 = true := by kernel_rfl
def ac71 : AC := (.seq (.reg [sm 1 (.h (.box (.t 0))), sm 2 (.p (.mov (.c (.bool false))))])
 (.seq (.reg [fa 4 0 1, ld 5 4, sm 6 (.call 112 [(.t 5)]), mv 3 6])
 (.seq (.seq (.draw 26 [] [mv 7 3, sm 8 (.p (.bin .eql (.t 7) (.c zi6))), mv 9 8, ⟨some 10, .p (.fieldA 1 (.t 1)), (some (9, false))⟩, ⟨some 11, .h (.load false 1 (.t 10)), (some (9, false))⟩, ⟨some 12, .p (.mov (.t 3)), (some (9, false))⟩, ⟨some 13, .call 114 [(.t 12), (.c (.int .i64 1))], (some (9, false))⟩, ⟨some 14, .call 113 [(.t 11), (.t 13)], (some (9, false))⟩, ⟨some 15, .p (.un .not (.t 14)), (some (9, false))⟩, sm 16 (.p (.pick (.t 9) (.c (.bool true)) (.t 15))), mv 17 16, ⟨some 18, .p (.fieldA 2 (.t 1)), (some (17, false))⟩, ⟨some 19, .h (.load false 1 (.t 18)), (some (17, false))⟩, ⟨some 20, .p (.mov (.t 3)), (some (17, false))⟩, ⟨some 21, .call 114 [(.t 20), (.c (.int .i64 2))], (some (17, false))⟩, ⟨some 22, .call 113 [(.t 19), (.t 21)], (some (17, false))⟩, ⟨some 23, .p (.un .not (.t 22)), (some (17, false))⟩, sm 24 (.p (.pick (.t 17) (.c (.bool true)) (.t 23))), mv 25 24, ⟨some 26, .p (.fieldA 3 (.t 1)), (some (25, false))⟩, ⟨some 27, .h (.load false 1 (.t 26)), (some (25, false))⟩, ⟨some 28, .p (.mov (.t 3)), (some (25, false))⟩, ⟨some 29, .call 114 [(.t 28), (.c (.int .i64 3))], (some (25, false))⟩, ⟨some 30, .call 113 [(.t 27), (.t 29)], (some (25, false))⟩, ⟨some 31, .p (.un .not (.t 30)), (some (25, false))⟩, sm 32 (.p (.pick (.t 25) (.c (.bool true)) (.t 31)))])
 (.cond (.t 32) (.seq (.reg [sm 2 (.p (.mov (.c (.bool false))))])
 .ret) .skip))
 (.seq (.reg [fa 33 4 1, ld 34 33, sm 35 (.p (.bin .eql (.t 34) (.c zi6))), mv 36 35, ⟨some 37, .p (.mov (.t 3)), (some (36, false))⟩, ⟨some 38, .call 114 [(.t 37), (.c (.int .i64 4))], (some (36, false))⟩, ⟨some 39, .p (.mov (.t 38)), (some (36, false))⟩, ⟨some 40, .p (.fieldA 4 (.t 1)), (some (39, true))⟩, ⟨some 41, .h (.load false 1 (.t 40)), (some (39, true))⟩, ⟨some 42, .p (.bin .geq (.t 41) (.c (.int .i64 (-131072)))), (some (39, true))⟩, ⟨some 43, .p (.pick (.t 39) (.t 42) (.c (.bool false))), (some (36, false))⟩, ⟨some 44, .p (.mov (.t 43)), (some (36, false))⟩, ⟨some 45, .p (.fieldA 4 (.t 1)), (some (44, true))⟩, ⟨some 46, .h (.load false 1 (.t 45)), (some (44, true))⟩, ⟨some 47, .p (.bin .leq (.t 46) (.c (.int .i64 131071))), (some (44, true))⟩, ⟨some 48, .p (.pick (.t 44) (.t 47) (.c (.bool false))), (some (36, false))⟩, sm 49 (.p (.pick (.t 36) (.c (.bool true)) (.t 48))), mv 2 49])
 .ret))))
def rs71 : List AR := [.tmp 2]
theorem ok71 : okF Tryz.prog 71 50 ac71 rs71 = true := by kernel_rfl
def ac72 : AC := (.seq (.reg [⟨some 2, .p (.mov (.c .nils)), none⟩])
 (.seq (.reg [⟨some 3, .p (.mov (.t 0)), none⟩,
   ⟨some 4, .call 115 [(.t 3), (.c (.func 9 []))], none⟩,
   ⟨some 2, .p (.mov (.t 4)), none⟩])
 .ret))
def rs72 : List AR := [.tmp 2]
theorem ok72 : okF Tryz.prog 72 5 ac72 rs72 = true := by kernel_rfl
def ac73 : AC := (.seq (.reg [⟨some 2, .p (.mov (.c .nils)), none⟩])
 (.seq (.reg [⟨some 3, .p (.mov (.t 0)), none⟩,
   ⟨some 4, .call 116 [(.t 3), (.c (.func 28 []))], none⟩,
   ⟨some 2, .p (.mov (.t 4)), none⟩])
 .ret))
def rs73 : List AR := [.tmp 2]
theorem ok73 : okF Tryz.prog 73 5 ac73 rs73 = true := by kernel_rfl
def ac74 : AC := (.seq (.reg [sm 6 (.p (.mov (.c (.bool false))))])
 (.seq (.reg [mv 7 0, mv 8 1, sm 9 (.p (.bin .geq (.t 7) (.t 8))), mv 10 9, ⟨some 11, .p (.mov (.t 0)), (some (10, true))⟩, ⟨some 12, .p (.mov (.t 2)), (some (10, true))⟩, ⟨some 13, .p (.bin .leq (.t 11) (.t 12)), (some (10, true))⟩, sm 14 (.p (.pick (.t 10) (.t 13) (.c (.bool false)))), mv 6 14])
 .ret))
def rs74 : List AR := [.tmp 6]
theorem ok74 : okF Tryz.prog 74 15 ac74 rs74 = true := by kernel_rfl
def ac75 : AC := (.seq (.reg [sm 1 (.p (.mov (.c (.bool false))))])
 (.seq (.reg [fa 2 3 0, ld 3 2, fa 4 2 0, ld 5 4, sm 6 (.p (.bin .sub (.c (.int .i64 1099511627776)) (.t 5))), sm 7 (.call 74 [(.t 3), (.c (.int .i64 1)), (.t 6)]), mv 8 7, ⟨some 9, .p (.fieldA 4 (.t 0)), (some (8, true))⟩, ⟨some 10, .h (.load false 1 (.t 9)), (some (8, true))⟩, ⟨some 11, .p (.bin .eql (.t 10) (.c (.str ⟨#[]⟩))), (some (8, true))⟩, sm 12 (.p (.pick (.t 8) (.t 11) (.c (.bool false)))), mv 1 12])
 .ret))
def rs75 : List AR := [.tmp 1]
theorem ok75 : okF Tryz.prog 75 13 ac75 rs75 = true := by kernel_rfl
def ac80 : AC := (.seq (.reg [sm 1 (.h (.box (.t 0))), sm 2 (.p (.mov (.c .nilf)))])
 (.seq (.reg [sm 3 (.p (.mkfn 117 [(.t 1)])), mv 2 3])
 .ret))
def rs80 : List AR := [.tmp 2]
theorem ok80 : okF Tryz.prog 80 4 ac80 rs80 = true := by kernel_rfl
def ac81 : AC := (.seq (.reg [sm 4 (.p (.mov (.c (.bool false))))])
 (.seq (.reg [mv 5 0, sm 6 (.p (.bin .geq (.t 5) (.c zi6))), mv 7 6, ⟨some 8, .p (.mov (.t 0)), (some (7, true))⟩, ⟨some 9, .p (.bin .rem (.t 8) (.c (.int .i64 4))), (some (7, true))⟩, ⟨some 10, .p (.bin .eql (.t 9) (.c zi6)), (some (7, true))⟩, sm 11 (.p (.pick (.t 7) (.t 10) (.c (.bool false)))), mv 12 11, ⟨some 13, .p (.mov (.t 0)), (some (12, true))⟩, ⟨some 14, .p (.mov (.t 1)), (some (12, true))⟩, ⟨some 15, .p (.bin .mul (.t 14) (.c (.int .i64 128))), (some (12, true))⟩, ⟨some 16, .p (.bin .sub (.t 15) (.c (.int .i64 4))), (some (12, true))⟩, ⟨some 17, .p (.bin .leq (.t 13) (.t 16)), (some (12, true))⟩, sm 18 (.p (.pick (.t 12) (.t 17) (.c (.bool false)))), mv 4 18])
 .ret))
def rs81 : List AR := [.tmp 4]
theorem ok81 : okF Tryz.prog 81 19 ac81 rs81 = true := by kernel_rfl
def ac82 : AC := (.seq (.reg [sm 3 (.p (.mov (.c zi6)))])
 (.seq (.reg [fa 6 18 1, ld 7 6, sm 8 (.p (.len false (.t 7))), sm 9 (.p (.mov (.c zi6)))])
 (.block 0 (.loop (.seq (.reg [sm 10 (.p (.bin .lss (.t 9) (.t 8)))])
 (.seq (.cond (.t 10) .skip (.exit 0))
 (.seq (.block 1 (.seq (.reg [mv 11 9, sm 12 (.p (.idxA 33 none (.t 7) (.t 9))), la 13 33 12, sm 5 (.h (.alloc [zi6, zu8, zu8, zu8, zu8, zu8, zu8, zu8, zu8, zu8, zu8, zu8, zu8, zu8, zu8, zu8, zu8, zu8, zu8, zu8, zu8, zu8, zu8, zu8, zu8, zu8, zu8, zu8, zu8, zu8, zu8, zu8, zu8])), mv 4 11, st 33 5 13])
 (.seq (.seq (.reg [mv 14 0, mv 15 4, mv 16 3, fa 17 0 5, ld 18 17, sm 19 (.v (.build [zi6, zi6] [(0, 1, (.t 16)), (1, 1, (.t 18))])), sm 20 (.callv (.t 14) [(.t 15), (.t 19)]), sm 21 (.p (.un .not (.t 20)))])
 (.cond (.t 21) .ret .skip))
 (.reg [fa 22 0 5, ld 23 22, mv 3 23]))))
 (.reg [sm 24 (.p (.bin .add (.t 9) (.c (.int .i64 1)))), mv 9 24]))))))))
def rs82 : List AR := []
theorem ok82 : okF Tryz.prog 82 25 ac82 rs82 = true := by kernel_rfl
def ac83 : AC := (.seq (.reg [sm 2 (.h (.box (.t 0))), sm 3 (.h (.box (.t 1))), sm 4 (.h (.alloc [.nils, .nils, zi6, zu3, zu3, zu3, zu3, zu3, zu3, zu3, zu3, zi6, zi6, zi6, zi6, zi6, zi6, (.bool false), (.bool false), (.bool false), (.bool false), zi6, zi6, zi6, zi6, zi6, zi6, zi6, zi6, (.str .empty), zi6, zu3, zu3, zi6, zi6, .nils, .nils, zu3, zu3, zu3, zu3, zi6, zi6, zi6, zi6, .nils, zi6])), sm 5 (.p (.mov (.c zi6))), sm 6 (.p (.mov (.c zi6)))])
 (.seq (.reg [la 10 47 2, sm 11 (.v (.build [.nils, .nils, zi6, zu3, zu3, zu3, zu3, zu3, zu3, zu3, zu3, zi6, zi6, zi6, zi6, zi6, zi6, (.bool false), (.bool false), (.bool false), (.bool false), zi6, zi6, zi6, zi6, zi6, zi6, zi6, zi6, (.str .empty), zi6, zu3, zu3, zi6, zi6, .nils, .nils, zu3, zu3, zu3, zu3, zi6, zi6, zi6, zi6, .nils, zi6] [(0, 47, (.t 10))])), sm 12 (.h (.box (.t 11))), mv 7 12])
 (.seq (.reg [mv 14 7, la 15 5 3, sm 16 (.call 120 [(.t 14), (.t 15)]), mv 13 16, sm 17 (.p (.extract 0 (.t 13))), sm 18 (.p (.extract 1 (.t 13))), mv 8 17, mv 9 18])
 (.seq (.reg [mv 19 7, sm 20 (.p (.nilchk (.t 19))), fa 21 0 20, la 22 47 21, mv 23 8, mv 24 9, st 47 4 22, mv 5 23, mv 6 24])
 .ret))))
def rs83 : List AR := [.cell 4 true 47, .tmp 5, .tmp 6]
theorem ok83 : okF Tryz.prog 83 25 ac83 rs83 = true := by kernel_rfl
def ac84 : AC := (.seq (.reg [sm 2 (.h (.alloc [zu8, zu8, zu8, zu8, zu8, zu8, zu8, zu8, zu8, zu8, zu8, zu8, zu8, zu8, zu8, zu8]))])
 (.seq (.reg [mv 5 0, sm 6 (.p (.len false (.t 5))), mv 3 6])
 (.seq (.reg [mv 7 3])
 (.block 0 (.seq (.reg [sm 23 (.p (.bin .eql (.t 7) (.c zi6))), mv 22 23])
 (.cond (.t 22) (.seq (.reg [sm 24 (.call 121 []), st 16 2 24])
 .ret) (.seq (.reg [sm 26 (.p (.bin .eql (.t 7) (.c (.int .i64 1)))), mv 25 26])
 (.cond (.t 25) (.seq (.reg [mv 27 0, sm 28 (.p (.idxA 16 none (.t 27) (.c zi6))), la 29 16 28, st 16 2 29])
 .ret) (.seq (.reg [mv 8 3, sm 9 (.call 122 [(.t 8)]), mv 4 9])
 (.seq (.draw 13 [(11, 12), (4, 12), (10, 12)] [mv 10 0, mv 11 4, mv 12 4, sm 13 (.v (.sub 16 (.t 10) none (some (.t 11)) (some (.t 12)))), sm 14 (.call 84 [(.t 13)]), mv 15 0, mv 16 4, mv 17 3, mv 18 3, sm 19 (.v (.sub 16 (.t 15) (some (.t 16)) (some (.t 17)) (some (.t 18)))), sm 20 (.call 84 [(.t 19)]), sm 21 (.call 123 [(.t 14), (.t 20)]), st 16 2 21])
 .ret))))))))))
def rs84 : List AR := [.cell 2 true 16]
theorem ok84 : okF Tryz.prog 84 30 ac84 rs84 = true := by kernel_rfl
end Go.Proofs

set_option maxRecDepth 100000
namespace Go.Proofs
open Go Go.Eng
def ac85 : AC := (.seq (.reg [sm 2 (.p (.mov (.c .nils)))])
 (.seq (.reg [mv 6 0, sm 7 (.p (.len false (.t 6))), sm 8 (.l (.make 16 16 [zu8, zu8, zu8, zu8, zu8, zu8, zu8, zu8, zu8, zu8, zu8, zu8, zu8, zu8, zu8, zu8] (.t 7))), mv 3 8])
 (.seq (.seq (.reg [mv 9 0, sm 10 (.p (.len false (.t 9))), sm 11 (.p (.mov (.c zi6)))])
 (.block 0 (.loop (.seq (.reg [sm 12 (.p (.bin .lss (.t 11) (.t 10)))])
 (.seq (.cond (.t 12) .skip (.exit 0))
 (.seq (.block 1 (.seq (.reg [mv 13 11, sm 14 (.p (.idxA 1 none (.t 9) (.t 11))), ld 15 14, mv 4 13, mv 5 15])
 (.reg [mv 16 3, mv 17 4, mv 18 5, sm 19 (.call 124 [(.t 18)]), sm 20 (.p (.idxA 16 none (.t 16) (.t 17))), st 16 20 19])))
 (.reg [sm 21 (.p (.bin .add (.t 11) (.c (.int .i64 1)))), mv 11 21])))))))
 (.seq (.reg [mv 22 3, mv 2 22])
 .ret))))
def rs85 : List AR := [.tmp 2]
theorem ok85 : okF Tryz.prog 85 23 ac85 rs85 = true := by kernel_rfl
def ac86 : AC := (.seq (.reg [sm 1 (.h (.box (.t 0))), sm 2 (.p (.mov (.c .nils)))])
 (.seq (.reg [fa 8 0 1, ld 9 8, sm 10 (.p (.len false (.t 9))), fa 11 1 1, fa 12 0 11, ld 13 12, sm 14 (.p (.len false (.t 13))), fa 15 46 1, ld 16 15, sm 17 (.d (.bslice 1 3 [zi6] [(0, (.t 10)), (1, (.t 14)), (2, (.t 16))])), sm 18 (.call 72 [(.t 17)]), sm 19 (.d (.sl2s (.t 18))), sm 20 (.d (.bslice 1 1 [(.str .empty)] [(0, (.t 19))])), mv 3 20])
 (.seq (.seq (.reg [fa 21 0 1, ld 22 21, sm 23 (.p (.len false (.t 22))), sm 24 (.p (.mov (.c zi6)))])
 (.block 0 (.loop (.seq (.reg [sm 25 (.p (.bin .lss (.t 24) (.t 23)))])
 (.seq (.cond (.t 25) .skip (.exit 0))
 (.seq (.block 1 (.seq (.reg [sm 26 (.p (.idxA 30 none (.t 22) (.t 24))), la 27 30 26, sm 5 (.h (.alloc [zu3, zu3, zu3, zu3, zu3, zu3, zu3, zu3, zu3, zu3, zu3, zu3, zu3, zu3, zu3, zu3, zu3, zu3, zu3, zu3, zu3, zu3, zu3, zu3, zu3, zu3, (.bool false), (.bool false), (.bool false), zi6])), st 30 5 27])
 (.reg [mv 28 3, la 29 30 5, sm 30 (.call 125 [(.t 29)]), sm 31 (.d (.sl2s (.t 30))), sm 32 (.d (.bslice 1 1 [(.str .empty)] [(0, (.t 31))])), sm 33 (.l (.append 1 16 (.t 28) (.t 32))), mv 3 33])))
 (.reg [sm 34 (.p (.bin .add (.t 24) (.c (.int .i64 1)))), mv 24 34])))))))
 (.seq (.reg [mv 35 3, fa 36 2 1, la 37 43 36, sm 38 (.call 126 [(.t 37)]), sm 39 (.l (.append 1 16 (.t 35) (.t 38))), mv 3 39])
 (.seq (.seq (.reg [fa 40 1 1, fa 41 0 40, ld 42 41, sm 43 (.p (.len false (.t 42))), sm 44 (.p (.mov (.c zi6)))])
 (.block 2 (.loop (.seq (.reg [sm 45 (.p (.bin .lss (.t 44) (.t 43)))])
 (.seq (.cond (.t 45) .skip (.exit 2))
 (.seq (.block 3 (.seq (.reg [sm 46 (.p (.idxA 128 none (.t 42) (.t 44))), la 47 128 46, sm 7 (.h (.alloc [zu8, zu8, zu8, zu8, zu8, zu8, zu8, zu8, zu8, zu8, zu8, zu8, zu8, zu8, zu8, zu8, zu8, zu8, zu8, zu8, zu8, zu8, zu8, zu8, zu8, zu8, zu8, zu8, zu8, zu8, zu8, zu8, zu8, zu8, zu8, zu8, zu8, zu8, zu8, zu8, zu8, zu8, zu8, zu8, zu8, zu8, zu8, zu8, zu8, zu8, zu8, zu8, zu8, zu8, zu8, zu8, zu8, zu8, zu8, zu8, zu8, zu8, zu8, zu8, zu8, zu8, zu8, zu8, zu8, zu8, zu8, zu8, zu8, zu8, zu8, zu8, zu8, zu8, zu8, zu8, zu8, zu8, zu8, zu8, zu8, zu8, zu8, zu8, zu8, zu8, zu8, zu8, zu8, zu8, zu8, zu8, zu8, zu8, zu8, zu8, zu8, zu8, zu8, zu8, zu8, zu8, zu8, zu8, zu8, zu8, zu8, zu8, zu8, zu8, zu8, zu8, zu8, zu8, zu8, zu8, zu8, zu8, zu8, zu8, zu8, zu8, zu8, zu8])), st 128 7 47])
 (.reg [mv 48 3, sm 49 (.d (.asub 1 128 (.t 7) none none)), sm 50 (.d (.sl2s (.t 49))), sm 51 (.d (.bslice 1 1 [(.str .empty)] [(0, (.t 50))])), sm 52 (.l (.append 1 16 (.t 48) (.t 51))), mv 3 52])))
 (.reg [sm 53 (.p (.bin .add (.t 44) (.c (.int .i64 1)))), mv 44 53])))))))
 (.seq (.reg [mv 54 3, mv 2 54])
 .ret))))))
def rs86 : List AR := [.tmp 2]
theorem ok86 : okF Tryz.prog 86 55 ac86 rs86 = true := by kernel_rfl
def ac87 : AC := (.seq (.reg [sm 1 (.p (.mov (.c (.bool false))))])
 (.seq (.reg [fa 2 0 0, la 3 19 2, sm 4 (.call 43 [(.t 3)]), mv 1 4])
 .ret))
def rs87 : List AR := [.tmp 1]
theorem ok87 : okF Tryz.prog 87 5 ac87 rs87 = true := by kernel_rfl
def ac88 : AC := (.seq (.reg [sm 1 (.p (.mov (.c (.bool false))))])
 (.seq (.reg [fa 2 19 0, ld 3 2, sm 4 (.p (.len false (.t 3))), fa 5 0 0, fa 6 18 5, ld 7 6, sm 8 (.p (.len false (.t 7))), sm 9 (.p (.bin .eql (.t 4) (.t 8))), mv 10 9, ⟨some 11, .p (.fieldA 20 (.t 0)), (some (10, true))⟩, ⟨some 12, .h (.load false 1 (.t 11)), (some (10, true))⟩, ⟨some 13, .p (.len false (.t 12)), (some (10, true))⟩, ⟨some 14, .p (.fieldA 0 (.t 0)), (some (10, true))⟩, ⟨some 15, .p (.fieldA 18 (.t 14)), (some (10, true))⟩, ⟨some 16, .h (.load false 1 (.t 15)), (some (10, true))⟩, ⟨some 17, .p (.len false (.t 16)), (some (10, true))⟩, ⟨some 18, .p (.bin .eql (.t 13) (.t 17)), (some (10, true))⟩, sm 19 (.p (.pick (.t 10) (.t 18) (.c (.bool false)))), mv 1 19])
 .ret))
def rs88 : List AR := [.tmp 1]
theorem ok88 : okF Tryz.prog 88 20 ac88 rs88 = true := by kernel_rfl
def ac89 : AC := (.seq (.reg [sm 1 (.p (.mov (.c (.bool false))))])
 (.seq (.reg [fa 2 20 0, ld 3 2, sm 4 (.call 90 [(.t 3)]), mv 5 4, ⟨some 6, .p (.fieldA 20 (.t 0)), (some (5, true))⟩, ⟨some 7, .h (.load false 1 (.t 6)), (some (5, true))⟩, ⟨some 8, .p (.idxA 1 none (.t 7) (.c zi6)), (some (5, true))⟩, ⟨some 9, .h (.load false 1 (.t 8)), (some (5, true))⟩, ⟨some 10, .p (.bin .geq (.t 9) (.c zi6)), (some (5, true))⟩, sm 11 (.p (.pick (.t 5) (.t 10) (.c (.bool false)))), mv 1 11])
 .ret))
def rs89 : List AR := [.tmp 1]
theorem ok89 : okF Tryz.prog 89 12 ac89 rs89 = true := by kernel_rfl
def ac90 : AC := (.seq (.reg [sm 2 (.p (.mov (.c (.bool false))))])
 (.seq (.seq (.reg [mv 4 0, sm 5 (.p (.len false (.t 4))), sm 6 (.p (.bin .sub (.t 5) (.c (.int .i64 1)))), mv 3 6])
 (.block 0 (.loop (.seq (.seq (.reg [mv 7 3, sm 8 (.p (.bin .gtr (.t 7) (.c zi6)))])
 (.cond (.t 8) .skip (.exit 0)))
 (.seq (.block 1 (.seq (.draw 10 [] [mv 11 0, mv 12 3, sm 13 (.p (.idxA 1 none (.t 11) (.t 12))), ld 14 13, mv 15 0, mv 16 3, sm 17 (.p (.bin .sub (.t 16) (.c (.int .i64 1)))), sm 18 (.p (.idxA 1 none (.t 15) (.t 17))), ld 19 18, sm 20 (.call 64 [(.t 14), (.t 19)])])
 (.cond (.t 20) (.seq (.reg [sm 2 (.p (.mov (.c (.bool false))))])
 .ret) .skip)))
 (.reg [mv 9 3, sm 10 (.p (.bin .sub (.t 9) (.c (.int .i64 1)))), mv 3 10]))))))
 (.seq (.reg [sm 2 (.p (.mov (.c (.bool true))))])
 .ret)))
def rs90 : List AR := [.tmp 2]
theorem ok90 : okF Tryz.prog 90 21 ac90 rs90 = true := by kernel_rfl
def ac91 : AC := (.seq (.reg [sm 1 (.p (.mov (.c (.bool false))))])
 (.seq (.draw 13 [] [fa 2 21 0, ld 3 2, sm 4 (.p (.len false (.t 3))), fa 5 20 0, ld 6 5, fa 7 20 0, ld 8 7, sm 9 (.p (.len false (.t 8))), sm 10 (.p (.bin .sub (.t 9) (.c (.int .i64 1)))), sm 11 (.p (.idxA 1 none (.t 6) (.t 10))), ld 12 11, sm 13 (.p (.bin .eql (.t 4) (.t 12))), mv 1 13])
 .ret))
def rs91 : List AR := [.tmp 1]
theorem ok91 : okF Tryz.prog 91 14 ac91 rs91 = true := by kernel_rfl
def ac92 : AC := (.seq (.reg [sm 4 (.h (.box (.t 0))), sm 6 (.h (.box (.t 2))), sm 7 (.h (.box (.t 3))), sm 8 (.p (.mov (.c zi6)))])
 (.seq (.seq (.reg [fa 11 45 7, ld 12 11, fa 13 45 6, ld 14 13, sm 15 (.p (.len false (.t 14))), sm 16 (.v (.sub 5 (.t 12) (some (.t 15)) none none)), sm 17 (.p (.len false (.t 16))), sm 18 (.p (.mov (.c zi6)))])
 (.block 0 (.loop (.seq (.reg [sm 19 (.p (.bin .lss (.t 18) (.t 17)))])
 (.seq (.cond (.t 19) .skip (.exit 0))
 (.seq (.block 1 (.seq (.reg [sm 20 (.p (.idxA 5 none (.t 16) (.t 18))), la 21 5 20, sm 10 (.h (.alloc [zi6, zi6, zi6, zi6, (.str .empty)])), st 5 10 21])
 (.seq (.draw 18 [] [fa 22 0 10, ld 23 22, fa 24 20 4, ld 25 24, mv 26 1, sm 27 (.p (.idxA 1 none (.t 25) (.t 26))), ld 28 27, sm 29 (.p (.bin .geq (.t 23) (.t 28))), mv 30 29, ⟨some 31, .h (.load true 5 (.t 10)), (some (30, false))⟩, ⟨some 32, .p (.fieldA 21 (.t 4)), (some (30, false))⟩, ⟨some 33, .h (.load false 1 (.t 32)), (some (30, false))⟩, ⟨some 34, .p (.fieldA 0 (.t 10)), (some (30, false))⟩, ⟨some 35, .h (.load false 1 (.t 34)), (some (30, false))⟩, ⟨some 36, .p (.idxA 5 none (.t 33) (.t 35)), (some (30, false))⟩, ⟨some 37, .h (.load true 5 (.t 36)), (some (30, false))⟩, ⟨some 38, .v (.eqa true [(.i .i64), (.i .i64), (.i .i64), (.i .i64), .s] (.t 31) (.t 37)), (some (30, false))⟩, sm 39 (.p (.pick (.t 30) (.c (.bool true)) (.t 38)))])
 (.cond (.t 39) (.seq (.reg [fa 40 0 10, ld 41 40, mv 8 41])
 .ret) .skip))))
 (.reg [sm 42 (.p (.bin .add (.t 18) (.c (.int .i64 1)))), mv 18 42])))))))
 (.seq (.seq (.draw 8 [] [fa 43 46 7, ld 44 43, fa 45 20 4, ld 46 45, mv 47 1, sm 48 (.p (.idxA 1 none (.t 46) (.t 47))), ld 49 48, sm 50 (.p (.bin .lss (.t 44) (.t 49)))])
 (.cond (.t 50) (.seq (.reg [fa 51 46 7, ld 52 51, mv 8 52])
 .ret) .skip))
 (.seq (.reg [sm 8 (.p (.mov (.c (.int .i64 (-1)))))])
 .ret))))
def rs92 : List AR := [.tmp 8]
theorem ok92 : okF Tryz.prog 92 53 ac92 rs92 = true := by kernel_rfl
def ac93 : AC := (.seq (.reg [sm 1 (.h (.box (.t 0))), sm 2 (.p (.mov (.c (.bool false))))])
 (.seq (.reg [fa 3 0 1, ld 4 3, sm 5 (.p (.len false (.t 4))), sm 6 (.p (.bin .geq (.t 5) (.c (.int .i64 1)))), mv 7 6, ⟨some 8, .p (.fieldA 0 (.t 1)), (some (7, true))⟩, ⟨some 9, .h (.load false 1 (.t 8)), (some (7, true))⟩, ⟨some 10, .p (.len false (.t 9)), (some (7, true))⟩, ⟨some 11, .p (.bin .leq (.t 10) (.c (.int .i64 64))), (some (7, true))⟩, sm 12 (.p (.pick (.t 7) (.t 11) (.c (.bool false)))), mv 2 12])
 .ret))
def rs93 : List AR := [.tmp 2]
theorem ok93 : okF Tryz.prog 93 13 ac93 rs93 = true := by kernel_rfl
def ac94 : AC := (.seq (.reg [sm 2 (.h (.box (.t 0))), sm 3 (.h (.box (.t 1))), sm 4 (.p (.mov (.c (.bool false))))])
 (.seq (.reg [fa 5 0 2, la 6 14 5, sm 7 (.call 127 [(.t 6)]), mv 8 7, ⟨some 9, .p (.fieldA 14 (.t 2)), (some (8, true))⟩, ⟨some 10, .h (.load true 13 (.t 9)), (some (8, true))⟩, ⟨some 11, .call 128 [(.t 10)], (some (8, true))⟩, sm 12 (.p (.pick (.t 8) (.t 11) (.c (.bool false)))), mv 13 12, ⟨some 14, .p (.fieldA 27 (.t 2)), (some (13, true))⟩, ⟨some 15, .h (.load true 2 (.t 14)), (some (13, true))⟩, ⟨some 16, .call 129 [(.t 15)], (some (13, true))⟩, sm 17 (.p (.pick (.t 13) (.t 16) (.c (.bool false)))), mv 18 17, ⟨some 19, .p (.fieldA 29 (.t 2)), (some (18, true))⟩, ⟨some 20, .h (.load true 6 (.t 19)), (some (18, true))⟩, ⟨some 21, .h (.load true 1 (.t 3)), (some (18, true))⟩, ⟨some 22, .call 130 [(.t 20), (.t 21)], (some (18, true))⟩, sm 23 (.p (.pick (.t 18) (.t 22) (.c (.bool false)))), mv 24 23, ⟨some 25, .p (.fieldA 35 (.t 2)), (some (24, true))⟩, ⟨some 26, .h (.load true 8 (.t 25)), (some (24, true))⟩, ⟨some 27, .call 131 [(.t 26)], (some (24, true))⟩, sm 28 (.p (.pick (.t 24) (.t 27) (.c (.bool false)))), mv 4 28])
 .ret))
def rs94 : List AR := [.tmp 4]
theorem ok94 : okF Tryz.prog 94 29 ac94 rs94 = true := by kernel_rfl
def ac95 : AC := (.seq (.reg [sm 1 (.h (.box (.t 0))), sm 2 (.p (.mov (.c (.bool false))))])
 (.seq (.reg [fa 3 1 1, sm 4 (.p (.idxA 1 (some 16) (.t 3) (.c zi6))), ld 5 4, sm 6 (.p (.binw .eql (.t 5) (.c zu3))), mv 7 6, ⟨some 8, .p (.fieldA 17 (.t 1)), (some (7, true))⟩, ⟨some 9, .p (.idxA 1 (some 9) (.t 8) (.c (.int .i64 5))), (some (7, true))⟩, ⟨some 10, .h (.load false 1 (.t 9)), (some (7, true))⟩, ⟨some 11, .p (.binw .leq (.t 10) (.c (.int .u32 7))), (some (7, true))⟩, sm 12 (.p (.pick (.t 7) (.t 11) (.c (.bool false)))), mv 13 12, ⟨some 14, .p (.fieldA 17 (.t 1)), (some (13, true))⟩, ⟨some 15, .p (.idxA 1 (some 9) (.t 14) (.c (.int .i64 7))), (some (13, true))⟩, ⟨some 16, .h (.load false 1 (.t 15)), (some (13, true))⟩, ⟨some 17, .p (.binw .eql (.t 16) (.c zu3)), (some (13, true))⟩, sm 18 (.p (.pick (.t 13) (.t 17) (.c (.bool false)))), mv 19 18, ⟨some 20, .p (.fieldA 17 (.t 1)), (some (19, true))⟩, ⟨some 21, .p (.idxA 1 (some 9) (.t 20) (.c (.int .i64 8))), (some (19, true))⟩, ⟨some 22, .h (.load false 1 (.t 21)), (some (19, true))⟩, ⟨some 23, .p (.binw .lss (.t 22) (.c (.int .u32 4))), (some (19, true))⟩, sm 24 (.p (.pick (.t 19) (.t 23) (.c (.bool false)))), mv 25 24, ⟨some 26, .p (.fieldA 29 (.t 1)), (some (25, true))⟩, ⟨some 27, .h (.load false 1 (.t 26)), (some (25, true))⟩, ⟨some 28, .p (.bin .geq (.t 27) (.c zi6)), (some (25, true))⟩, sm 29 (.p (.pick (.t 25) (.t 28) (.c (.bool false)))), mv 30 29, ⟨some 31, .p (.fieldA 29 (.t 1)), (some (30, true))⟩, ⟨some 32, .h (.load false 1 (.t 31)), (some (30, true))⟩, ⟨some 33, .p (.bin .leq (.t 32) (.c (.int .i64 1099511627776))), (some (30, true))⟩, sm 34 (.p (.pick (.t 30) (.t 33) (.c (.bool false)))), mv 35 34, ⟨some 36, .p (.fieldA 27 (.t 1)), (some (35, true))⟩, ⟨some 37, .h (.load false 1 (.t 36)), (some (35, true))⟩, ⟨some 38, .p (.mov (.t 37)), (some (35, true))⟩, ⟨some 39, .p (.fieldA 28 (.t 1)), (some (38, true))⟩, ⟨some 40, .h (.load false 1 (.t 39)), (some (38, true))⟩, ⟨some 41, .p (.pick (.t 38) (.t 40) (.c (.bool false))), (some (35, true))⟩, ⟨some 42, .p (.un .not (.t 41)), (some (35, true))⟩, sm 43 (.p (.pick (.t 35) (.t 42) (.c (.bool false)))), mv 2 43])
 .ret))
def rs95 : List AR := [.tmp 2]
theorem ok95 : okF Tryz.prog 95 44 ac95 rs95 = true := by kernel_rfl
def ac96 : AC := (.seq (.reg [sm 2 (.h (.box (.t 0))), sm 4 (.p (.mov (.c (.bool false))))])
 (.seq (.block 0 (.seq (.reg [fa 6 2 2, ld 7 6, sm 8 (.p (.bin .lss (.t 7) (.c zi6))), mv 9 8, ⟨some 10, .p (.fieldA 2 (.t 2)), (some (9, false))⟩, ⟨some 11, .h (.load false 1 (.t 10)), (some (9, false))⟩, ⟨some 12, .p (.mov (.t 1)), (some (9, false))⟩, ⟨some 13, .p (.bin .geq (.t 11) (.t 12)), (some (9, false))⟩, sm 14 (.p (.pick (.t 9) (.c (.bool true)) (.t 13))), mv 15 14, ⟨some 16, .p (.fieldA 3 (.t 2)), (some (15, false))⟩, ⟨some 17, .h (.load false 1 (.t 16)), (some (15, false))⟩, ⟨some 18, .p (.bin .lss (.t 17) (.c zi6)), (some (15, false))⟩, sm 19 (.p (.pick (.t 15) (.c (.bool true)) (.t 18))), mv 20 19, ⟨some 21, .p (.fieldA 3 (.t 2)), (some (20, false))⟩, ⟨some 22, .h (.load false 1 (.t 21)), (some (20, false))⟩, ⟨some 23, .p (.bin .gtr (.t 22) (.c (.int .i64 1099511627776))), (some (20, false))⟩, sm 24 (.p (.pick (.t 20) (.c (.bool true)) (.t 23))), mv 5 24])
 (.cond (.t 5) (.seq (.reg [sm 4 (.p (.mov (.c (.bool false))))])
 .ret) (.seq (.reg [fa 26 1 2, ld 27 26, sm 28 (.p (.bin .eql (.t 27) (.c (.int .i64 1)))), mv 25 28])
 (.cond (.t 25) (.seq (.reg [fa 29 4 2, ld 30 29, sm 31 (.p (.len true (.t 30))), sm 32 (.p (.bin .eql (.t 31) (.c (.int .i64 1)))), mv 4 32])
 .ret) .skip)))))
 (.seq (.reg [fa 33 1 2, ld 34 33, sm 35 (.p (.bin .eql (.t 34) (.c (.int .i64 2)))), mv 36 35, ⟨some 37, .p (.fieldA 4 (.t 2)), (some (36, true))⟩, ⟨some 38, .h (.load false 1 (.t 37)), (some (36, true))⟩, ⟨some 39, .p (.len true (.t 38)), (some (36, true))⟩, ⟨some 40, .p (.bin .geq (.t 39) (.c (.int .i64 1))), (some (36, true))⟩, sm 41 (.p (.pick (.t 36) (.t 40) (.c (.bool false)))), mv 42 41, ⟨some 43, .p (.fieldA 4 (.t 2)), (some (42, true))⟩, ⟨some 44, .h (.load false 1 (.t 43)), (some (42, true))⟩, ⟨some 45, .p (.len true (.t 44)), (some (42, true))⟩, ⟨some 46, .p (.bin .leq (.t 45) (.c (.int .i64 512))), (some (42, true))⟩, sm 47 (.p (.pick (.t 42) (.t 46) (.c (.bool false)))), mv 4 47])
 .ret)))
def rs96 : List AR := [.tmp 4]
theorem ok96 : okF Tryz.prog 96 48 ac96 rs96 = true := by kernel_rfl
def ac97 : AC := (.seq (.reg [sm 2 (.h (.alloc [.nils])), sm 3 (.p (.mov (.c zi6)))])
 (.seq (.seq (.reg [mv 4 0, sm 5 (.p (.bin .lss (.t 4) (.c (.int .i64 1)))), mv 6 5, ⟨some 7, .p (.mov (.t 0)), (some (6, false))⟩, ⟨some 8, .p (.bin .gtr (.t 7) (.c (.int .i64 64))), (some (6, false))⟩, sm 9 (.p (.pick (.t 6) (.c (.bool true)) (.t 8)))])
 (.cond (.t 9) (.seq (.reg [sm 10 (.v (.build [.nils] [])), st 1 2 10, sm 3 (.p (.mov (.c (.int .i64 1))))])
 .ret) .skip))
 (.seq (.reg [mv 11 0, sm 12 (.l (.make 128 128 [zu8, zu8, zu8, zu8, zu8, zu8, zu8, zu8, zu8, zu8, zu8, zu8, zu8, zu8, zu8, zu8, zu8, zu8, zu8, zu8, zu8, zu8, zu8, zu8, zu8, zu8, zu8, zu8, zu8, zu8, zu8, zu8, zu8, zu8, zu8, zu8, zu8, zu8, zu8, zu8, zu8, zu8, zu8, zu8, zu8, zu8, zu8, zu8, zu8, zu8, zu8, zu8, zu8, zu8, zu8, zu8, zu8, zu8, zu8, zu8, zu8, zu8, zu8, zu8, zu8, zu8, zu8, zu8, zu8, zu8, zu8, zu8, zu8, zu8, zu8, zu8, zu8, zu8, zu8, zu8, zu8, zu8, zu8, zu8, zu8, zu8, zu8, zu8, zu8, zu8, zu8, zu8, zu8, zu8, zu8, zu8, zu8, zu8, zu8, zu8, zu8, zu8, zu8, zu8, zu8, zu8, zu8, zu8, zu8, zu8, zu8, zu8, zu8, zu8, zu8, zu8, zu8, zu8, zu8, zu8, zu8, zu8, zu8, zu8, zu8, zu8, zu8, zu8] (.t 11))), sm 13 (.v (.build [.nils] [(0, 1, (.t 12))])), st 1 2 13, sm 3 (.p (.mov (.c zi6)))])
 .ret)))
def rs97 : List AR := [.cell 2 true 1, .tmp 3]
theorem ok97 : okF Tryz.prog 97 14 ac97 rs97 = true := by kernel_rfl
def ac98 : AC := (.seq (.reg [sm 3 (.h (.box (.t 0))), sm 6 (.h (.alloc [.nils])), sm 7 (.p (.mov (.c (.bool false))))])
 (.seq (.seq (.reg [mv 9 1, sm 10 (.p (.bin .lss (.t 9) (.c zi6))), mv 11 10, ⟨some 12, .p (.mov (.t 1)), (some (11, false))⟩, ⟨some 13, .h (.load true 1 (.t 3)), (some (11, false))⟩, ⟨some 14, .call 132 [(.t 13)], (some (11, false))⟩, ⟨some 15, .p (.bin .gtr (.t 12) (.t 14)), (some (11, false))⟩, sm 16 (.p (.pick (.t 11) (.c (.bool true)) (.t 15))), mv 17 16, ⟨some 18, .p (.mov (.t 2)), (some (17, false))⟩, ⟨some 19, .p (.len true (.t 18)), (some (17, false))⟩, ⟨some 20, .h (.load true 1 (.t 3)), (some (17, false))⟩, ⟨some 21, .call 132 [(.t 20)], (some (17, false))⟩, ⟨some 22, .p (.mov (.t 1)), (some (17, false))⟩, ⟨some 23, .p (.bin .sub (.t 21) (.t 22)), (some (17, false))⟩, ⟨some 24, .p (.bin .gtr (.t 19) (.t 23)), (some (17, false))⟩, sm 25 (.p (.pick (.t 17) (.c (.bool true)) (.t 24)))])
 (.cond (.t 25) (.seq (.reg [la 26 1 3, st 1 6 26, sm 7 (.p (.mov (.c (.bool false))))])
 .ret) .skip))
 (.seq (.reg [fa 27 0 3, ld 28 27, sm 29 (.call 133 [(.t 28)]), sm 30 (.v (.build [.nils] [(0, 1, (.t 29))])), sm 8 (.h (.alloc [.nils])), st 1 8 30])
 (.seq (.reg [la 31 1 8, mv 32 1, mv 33 2, sm 34 (.l (.s2b (.t 33))), sm 35 (.call 134 [(.t 31), (.t 32), (.t 34)])])
 (.seq (.reg [fa 36 0 8, ld 37 36, sm 38 (.v (.build [.nils] [(0, 1, (.t 37))])), st 1 6 38, sm 7 (.p (.mov (.c (.bool true))))])
 .ret)))))
def rs98 : List AR := [.cell 6 true 1, .tmp 7]
theorem ok98 : okF Tryz.prog 98 39 ac98 rs98 = true := by kernel_rfl
def ac99 : AC := (.seq (.reg [sm 2 (.h (.alloc [zi6, zu3, zu3, zu3, zu3, zu3, zu3, zu3, zu3, zi6, zi6, zi6, zi6, zi6])), sm 3 (.p (.mov (.c zi6)))])
 (.seq (.seq (.reg [mv 4 0, sm 5 (.p (.bin .lss (.t 4) (.c (.int .i64 1)))), mv 6 5, ⟨some 7, .p (.mov (.t 0)), (some (6, false))⟩, ⟨some 8, .p (.bin .gtr (.t 7) (.c (.int .i64 4))), (some (6, false))⟩, sm 9 (.p (.pick (.t 6) (.c (.bool true)) (.t 8)))])
 (.cond (.t 9) (.seq (.reg [sm 10 (.v (.build [zi6, zu3, zu3, zu3, zu3, zu3, zu3, zu3, zu3, zi6, zi6, zi6, zi6, zi6] [])), st 14 2 10, sm 3 (.p (.mov (.c (.int .i64 1))))])
 .ret) .skip))
 (.seq (.reg [mv 11 0, sm 12 (.v (.build [zi6, zu3, zu3, zu3, zu3, zu3, zu3, zu3, zu3, zi6, zi6, zi6, zi6, zi6] [(0, 1, (.t 11))])), st 14 2 12, sm 3 (.p (.mov (.c zi6)))])
 .ret)))
def rs99 : List AR := [.cell 2 true 14, .tmp 3]
theorem ok99 : okF Tryz.prog 99 13 ac99 rs99 = true := by kernel_rfl
def ac100 : AC := (.seq (.reg [sm 2 (.h (.alloc [zu3, zu3, zi6, zi6, .nils, .nils])), sm 3 (.p (.mov (.c zi6)))])
 (.seq (.seq (.reg [mv 4 0, sm 5 (.p (.len false (.t 4))), sm 6 (.p (.bin .gtr (.t 5) (.c (.int .i64 64))))])
 (.cond (.t 6) (.seq (.reg [sm 7 (.v (.build [zu3, zu3, zi6, zi6, .nils, .nils] [])), st 6 2 7, sm 3 (.p (.mov (.c (.int .i64 2))))])
 .ret) .skip))
 (.seq (.reg [mv 8 0, sm 9 (.l (.append 128 128 (.c .nils) (.t 8))), sm 10 (.v (.build [zu3, zu3, zi6, zi6, .nils, .nils] [(4, 1, (.t 9))])), st 6 2 10, sm 3 (.p (.mov (.c zi6)))])
 .ret)))
def rs100 : List AR := [.cell 2 true 6, .tmp 3]
theorem ok100 : okF Tryz.prog 100 11 ac100 rs100 = true := by kernel_rfl
def ac101 : AC := (.seq (.reg [⟨some 2, .h (.alloc [(.int .u32 0), (.int .u32 0), (.int .u32 0), (.int .u32 0), (.int .u32 0), (.int .u32 0), (.int .u32 0), (.int .u32 0), (.int .u32 0), (.int .u32 0), (.int .u32 0), (.int .u32 0), (.int .u32 0), (.int .u32 0), (.int .u32 0), (.int .u32 0), (.int .u32 0), (.int .u32 0), (.int .u32 0), (.int .u32 0), (.int .u32 0), (.int .u32 0), (.int .u32 0), (.int .u32 0), (.int .u32 0), (.int .u32 0), (.int .u32 0), (.int .u32 0), (.int .u32 0), (.int .u32 0), (.int .u32 0), (.int .u32 0), (.int .u32 0), (.int .u32 0), (.int .u32 0), (.int .u32 0), (.int .u32 0), (.int .u32 0), (.int .u32 0), (.int .u32 0), (.int .u32 0), (.int .u32 0), (.int .u32 0), (.int .u32 0), (.int .u32 0), (.int .u32 0), (.int .u32 0), (.int .u32 0), (.int .u32 0), (.int .u32 0), (.int .u32 0), (.int .u32 0), (.int .u32 0), (.int .u32 0), (.int .u32 0), (.int .u32 0), (.int .u32 0), (.int .u32 0), (.int .u32 0), (.int .u32 0), (.int .u32 0), (.int .u32 0), (.int .u32 0), (.int .u32 0)]), none⟩])
 (.seq (.reg [⟨some 3, .h (.alloc [(.int .u32 0), (.int .u32 0), (.int .u32 0), (.int .u32 0), (.int .u32 0), (.int .u32 0), (.int .u32 0), (.int .u32 0), (.int .u32 0), (.int .u32 0), (.int .u32 0), (.int .u32 0), (.int .u32 0), (.int .u32 0), (.int .u32 0), (.int .u32 0), (.int .u32 0), (.int .u32 0), (.int .u32 0), (.int .u32 0), (.int .u32 0), (.int .u32 0), (.int .u32 0), (.int .u32 0), (.int .u32 0), (.int .u32 0), (.int .u32 0), (.int .u32 0), (.int .u32 0), (.int .u32 0), (.int .u32 0), (.int .u32 0), (.int .u32 0), (.int .u32 0), (.int .u32 0), (.int .u32 0), (.int .u32 0), (.int .u32 0), (.int .u32 0), (.int .u32 0), (.int .u32 0), (.int .u32 0), (.int .u32 0), (.int .u32 0), (.int .u32 0), (.int .u32 0), (.int .u32 0), (.int .u32 0), (.int .u32 0), (.int .u32 0), (.int .u32 0), (.int .u32 0), (.int .u32 0), (.int .u32 0), (.int .u32 0), (.int .u32 0), (.int .u32 0), (.int .u32 0), (.int .u32 0), (.int .u32 0), (.int .u32 0), (.int .u32 0), (.int .u32 0), (.int .u32 0)]), none⟩])
 (.seq (.seq (.reg [⟨some 11, .p (.mov (.c (.int .i64 0))), none⟩])
 (.block 0 (.loop (.seq (.reg [⟨some 12, .p (.bin .lss (.t 11) (.c (.int .i64 64))), none⟩])
 (.seq (.cond (.t 12) .skip (.exit 0))
 (.seq (.block 1 (.seq (.reg [⟨some 13, .p (.mov (.t 11)), none⟩,
   ⟨some 4, .p (.mov (.t 13)), none⟩])
 (.seq (.seq (.reg [⟨some 14, .p (.mov (.t 4)), none⟩,
   ⟨some 15, .p (.bin .lss (.t 14) (.c (.int .i64 16))), none⟩])
 (.cond (.t 15) (.seq (.seq (.reg [⟨some 16, .p (.mov (.t 0)), none⟩,
   ⟨some 17, .p (.mov (.t 4)), none⟩,
   ⟨some 18, .p (.bin .mul (.c (.int .i64 4)) (.t 17)), none⟩,
   ⟨some 19, .p (.mov (.t 4)), none⟩,
   ⟨some 20, .p (.bin .mul (.c (.int .i64 4)) (.t 19)), none⟩,
   ⟨some 21, .p (.bin .add (.t 20) (.c (.int .i64 4))), none⟩,
   ⟨some 22, .v (.sub 1 (.t 16) (some (.t 18)) (some (.t 21)) none), none⟩,
   ⟨some 23, .p (.len false (.t 22)), none⟩,
   ⟨some 24, .p (.mov (.c (.int .i64 0))), none⟩])
 (.block 2 (.loop (.seq (.reg [⟨some 25, .p (.bin .lss (.t 24) (.t 23)), none⟩])
 (.seq (.cond (.t 25) .skip (.exit 2))
 (.seq (.block 3 (.seq (.reg [⟨some 26, .p (.idxA 1 none (.t 22) (.t 24)), none⟩,
   ⟨some 27, .h (.load false 1 (.t 26)), none⟩,
   ⟨some 6, .p (.mov (.t 27)), none⟩])
 (.reg [⟨some 28, .p (.mov (.t 4)), none⟩,
   ⟨some 29, .p (.mov (.t 4)), none⟩,
   ⟨some 30, .p (.idxA 1 (some 64) (.t 3) (.t 29)), none⟩,
   ⟨some 31, .h (.load false 1 (.t 30)), none⟩,
   ⟨some 32, .p (.binw .shl (.t 31) (.c (.int .u64 8))), none⟩,
   ⟨some 33, .p (.mov (.t 6)), none⟩,
   ⟨some 34, .p (.conv .u32 (.t 33)), none⟩,
   ⟨some 35, .p (.binw .or (.t 32) (.t 34)), none⟩,
   ⟨some 36, .p (.idxA 1 (some 64) (.t 3) (.t 28)), none⟩,
   ⟨none, .h (.store 1 (.t 36) (.t 35)), none⟩])))
 (.reg [⟨some 37, .p (.bin .add (.t 24) (.c (.int .i64 1))), none⟩,
   ⟨some 24, .p (.mov (.t 37)), none⟩])))))))
 (.exit 1)) .skip))
 (.seq (.draw 10 [] [⟨some 38, .p (.mov (.t 4)), none⟩,
   ⟨some 39, .p (.bin .sub (.t 38) (.c (.int .i64 15))), none⟩,
   ⟨some 40, .p (.idxA 1 (some 64) (.t 3) (.t 39)), none⟩,
   ⟨some 41, .h (.load false 1 (.t 40)), none⟩,
   ⟨some 42, .p (.mov (.t 4)), none⟩,
   ⟨some 43, .p (.bin .sub (.t 42) (.c (.int .i64 2))), none⟩,
   ⟨some 44, .p (.idxA 1 (some 64) (.t 3) (.t 43)), none⟩,
   ⟨some 45, .h (.load false 1 (.t 44)), none⟩,
   ⟨some 7, .p (.mov (.t 41)), none⟩,
   ⟨some 8, .p (.mov (.t 45)), none⟩])
 (.seq (.reg [⟨some 46, .p (.mov (.t 7)), none⟩,
   ⟨some 47, .call 135 [(.t 46), (.c (.int .i64 (-7)))], none⟩,
   ⟨some 48, .p (.mov (.t 7)), none⟩,
   ⟨some 49, .call 135 [(.t 48), (.c (.int .i64 (-18)))], none⟩,
   ⟨some 50, .p (.binw .xor (.t 47) (.t 49)), none⟩,
   ⟨some 51, .p (.mov (.t 7)), none⟩,
   ⟨some 52, .p (.binw .shr (.t 51) (.c (.int .u64 3))), none⟩,
   ⟨some 53, .p (.binw .xor (.t 50) (.t 52)), none⟩,
   ⟨some 9, .p (.mov (.t 53)), none⟩])
 (.seq (.reg [⟨some 54, .p (.mov (.t 8)), none⟩,
   ⟨some 55, .call 135 [(.t 54), (.c (.int .i64 (-17)))], none⟩,
   ⟨some 56, .p (.mov (.t 8)), none⟩,
   ⟨some 57, .call 135 [(.t 56), (.c (.int .i64 (-19)))], none⟩,
   ⟨some 58, .p (.binw .xor (.t 55) (.t 57)), none⟩,
   ⟨some 59, .p (.mov (.t 8)), none⟩,
   ⟨some 60, .p (.binw .shr (.t 59) (.c (.int .u64 10))), none⟩,
   ⟨some 61, .p (.binw .xor (.t 58) (.t 60)), none⟩,
   ⟨some 10, .p (.mov (.t 61)), none⟩])
 (.draw 16 [(4, 15), (10, 15)] [⟨some 62, .p (.mov (.t 4)), none⟩,
   ⟨some 63, .p (.mov (.t 4)), none⟩,
   ⟨some 64, .p (.bin .sub (.t 63) (.c (.int .i64 16))), none⟩,
   ⟨some 65, .p (.idxA 1 (some 64) (.t 3) (.t 64)), none⟩,
   ⟨some 66, .h (.load false 1 (.t 65)), none⟩,
   ⟨some 67, .p (.mov (.t 9)), none⟩,
   ⟨some 68, .p (.binw .add (.t 66) (.t 67)), none⟩,
   ⟨some 69, .p (.mov (.t 4)), none⟩,
   ⟨some 70, .p (.bin .sub (.t 69) (.c (.int .i64 7))), none⟩,
   ⟨some 71, .p (.idxA 1 (some 64) (.t 3) (.t 70)), none⟩,
   ⟨some 72, .h (.load false 1 (.t 71)), none⟩,
   ⟨some 73, .p (.binw .add (.t 68) (.t 72)), none⟩,
   ⟨some 74, .p (.mov (.t 10)), none⟩,
   ⟨some 75, .p (.binw .add (.t 73) (.t 74)), none⟩,
   ⟨some 76, .p (.idxA 1 (some 64) (.t 3) (.t 62)), none⟩,
   ⟨none, .h (.store 1 (.t 76) (.t 75)), none⟩])))))))
 (.reg [⟨some 77, .p (.bin .add (.t 11) (.c (.int .i64 1))), none⟩,
   ⟨some 11, .p (.mov (.t 77)), none⟩])))))))
 (.seq (.reg [⟨some 78, .h (.load true 64 (.t 3)), none⟩,
   ⟨none, .h (.store 64 (.t 2) (.t 78)), none⟩])
 .ret))))
def rs101 : List AR := [.cell 2 true 64]
theorem ok101 : okF Tryz.prog 101 79 ac101 rs101 = true := by kernel_rfl
def ac102 : AC := (.seq (.reg [⟨some 8, .p (.mov (.c (.int .u32 0))), none⟩])
 (.seq (.reg [⟨some 9, .p (.mov (.t 0)), none⟩,
   ⟨some 10, .p (.mov (.t 1)), none⟩,
   ⟨some 11, .p (.un .neg (.t 10)), none⟩,
   ⟨some 12, .call 135 [(.t 9), (.t 11)], none⟩,
   ⟨some 13, .p (.mov (.t 0)), none⟩,
   ⟨some 14, .p (.mov (.t 2)), none⟩,
   ⟨some 15, .p (.un .neg (.t 14)), none⟩,
   ⟨some 16, .call 135 [(.t 13), (.t 15)], none⟩,
   ⟨some 17, .p (.binw .xor (.t 12) (.t 16)), none⟩,
   ⟨some 18, .p (.mov (.t 0)), none⟩,
   ⟨some 19, .p (.mov (.t 3)), none⟩,
   ⟨some 20, .p (.un .neg (.t 19)), none⟩,
   ⟨some 21, .call 135 [(.t 18), (.t 20)], none⟩,
   ⟨some 22, .p (.binw .xor (.t 17) (.t 21)), none⟩,
   ⟨some 8, .p (.mov (.t 22)), none⟩])
 .ret))
def rs102 : List AR := [.tmp 8]
theorem ok102 : okF Tryz.prog 102 23 ac102 rs102 = true := by kernel_rfl
def ac108 : AC := (.seq (.reg [sm 2 (.p (.mov (.c (.bool false))))])
 (.seq (.reg [mv 3 0, mv 4 0, sm 5 (.p (.bin .neq (.t 3) (.t 4))), mv 2 5])
 .ret))
def rs108 : List AR := [.tmp 2]
theorem ok108 : okF Tryz.prog 108 6 ac108 rs108 = true := by kernel_rfl
def ac109 : AC := (.seq (.reg [⟨some 2, .p (.mov (.c .nils)), none⟩])
 (.seq (.reg [⟨some 6, .l (.bslice 1 0 [(.int .u8 0)] []), none⟩,
   ⟨some 7, .p (.mov (.t 0)), none⟩,
   ⟨some 8, .l (.append 1 1 (.t 6) (.t 7)), none⟩,
   ⟨some 3, .p (.mov (.t 8)), none⟩])
 (.seq (.reg [⟨some 9, .p (.mov (.t 3)), none⟩,
   ⟨some 10, .d (.bslice 1 1 [(.int .u8 0)] [(0, (.c (.int .u8 128)))]), none⟩,
   ⟨some 11, .l (.append 1 1 (.t 9) (.t 10)), none⟩,
   ⟨some 3, .p (.mov (.t 11)), none⟩])
 (.seq (.block 0 (.loop (.seq (.seq (.reg [⟨some 12, .p (.mov (.t 3)), none⟩,
   ⟨some 13, .p (.len false (.t 12)), none⟩,
   ⟨some 14, .p (.bin .rem (.t 13) (.c (.int .i64 64))), none⟩,
   ⟨some 15, .p (.bin .neq (.t 14) (.c (.int .i64 56))), none⟩])
 (.cond (.t 15) .skip (.exit 0)))
 (.block 1 (.reg [⟨some 16, .p (.mov (.t 3)), none⟩,
   ⟨some 17, .d (.bslice 1 1 [(.int .u8 0)] [(0, (.c (.int .u8 0)))]), none⟩,
   ⟨some 18, .l (.append 1 1 (.t 16) (.t 17)), none⟩,
   ⟨some 3, .p (.mov (.t 18)), none⟩])))))
 (.seq (.reg [⟨some 19, .p (.mov (.t 0)), none⟩,
   ⟨some 20, .p (.len false (.t 19)), none⟩,
   ⟨some 21, .p (.convw .u64 (.t 20)), none⟩,
   ⟨some 22, .p (.binw .mul (.c (.int .u64 8)) (.t 21)), none⟩,
   ⟨some 4, .p (.mov (.t 22)), none⟩])
 (.seq (.seq (.reg [⟨some 5, .p (.mov (.c (.int .i64 0))), none⟩])
 (.block 2 (.loop (.seq (.seq (.reg [⟨some 23, .p (.mov (.t 5)), none⟩,
   ⟨some 24, .p (.bin .lss (.t 23) (.c (.int .i64 8))), none⟩])
 (.cond (.t 24) .skip (.exit 2)))
 (.seq (.block 3 (.reg [⟨some 27, .p (.mov (.t 3)), none⟩,
   ⟨some 28, .p (.mov (.t 4)), none⟩,
   ⟨some 29, .p (.mov (.t 5)), none⟩,
   ⟨some 30, .p (.bin .mul (.c (.int .i64 8)) (.t 29)), none⟩,
   ⟨some 31, .p (.bin .sub (.c (.int .i64 56)) (.t 30)), none⟩,
   ⟨some 32, .p (.binw .shr (.t 28) (.t 31)), none⟩,
   ⟨some 33, .p (.convw .u8 (.t 32)), none⟩,
   ⟨some 34, .d (.bslice 1 1 [(.int .u8 0)] [(0, (.t 33))]), none⟩,
   ⟨some 35, .l (.append 1 1 (.t 27) (.t 34)), none⟩,
   ⟨some 3, .p (.mov (.t 35)), none⟩]))
 (.reg [⟨some 25, .p (.mov (.t 5)), none⟩,
   ⟨some 26, .p (.bin .add (.t 25) (.c (.int .i64 1))), none⟩,
   ⟨some 5, .p (.mov (.t 26)), none⟩]))))))
 (.seq (.reg [⟨some 36, .p (.mov (.t 3)), none⟩,
   ⟨some 2, .p (.mov (.t 36)), none⟩])
 .ret)))))))
def rs109 : List AR := [.tmp 2]
theorem ok109 : okF Tryz.prog 109 37 ac109 rs109 = true := by kernel_rfl
def ac110 : AC := (.seq (.reg [⟨some 2, .h (.alloc [(.int .u32 0), (.int .u32 0), (.int .u32 0), (.int .u32 0), (.int .u32 0), (.int .u32 0), (.int .u32 0), (.int .u32 0), (.int .u32 0), (.int .u32 0), (.int .u32 0), (.int .u32 0), (.int .u32 0), (.int .u32 0), (.int .u32 0), (.int .u32 0), (.int .u32 0), (.int .u32 0), (.int .u32 0), (.int .u32 0), (.int .u32 0), (.int .u32 0), (.int .u32 0), (.int .u32 0), (.int .u32 0), (.int .u32 0), (.int .u32 0), (.int .u32 0), (.int .u32 0), (.int .u32 0), (.int .u32 0), (.int .u32 0), (.int .u32 0), (.int .u32 0), (.int .u32 0), (.int .u32 0), (.int .u32 0), (.int .u32 0), (.int .u32 0), (.int .u32 0), (.int .u32 0), (.int .u32 0), (.int .u32 0), (.int .u32 0), (.int .u32 0), (.int .u32 0), (.int .u32 0), (.int .u32 0), (.int .u32 0), (.int .u32 0), (.int .u32 0), (.int .u32 0), (.int .u32 0), (.int .u32 0), (.int .u32 0), (.int .u32 0), (.int .u32 0), (.int .u32 0), (.int .u32 0), (.int .u32 0), (.int .u32 0), (.int .u32 0), (.int .u32 0), (.int .u32 0)]), none⟩])
 (.seq (.reg [⟨some 3, .h (.alloc [(.int .u32 0), (.int .u32 0), (.int .u32 0), (.int .u32 0), (.int .u32 0), (.int .u32 0), (.int .u32 0), (.int .u32 0), (.int .u32 0), (.int .u32 0), (.int .u32 0), (.int .u32 0), (.int .u32 0), (.int .u32 0), (.int .u32 0), (.int .u32 0), (.int .u32 0), (.int .u32 0), (.int .u32 0), (.int .u32 0), (.int .u32 0), (.int .u32 0), (.int .u32 0), (.int .u32 0), (.int .u32 0), (.int .u32 0), (.int .u32 0), (.int .u32 0), (.int .u32 0), (.int .u32 0), (.int .u32 0), (.int .u32 0), (.int .u32 0), (.int .u32 0), (.int .u32 0), (.int .u32 0), (.int .u32 0), (.int .u32 0), (.int .u32 0), (.int .u32 0), (.int .u32 0), (.int .u32 0), (.int .u32 0), (.int .u32 0), (.int .u32 0), (.int .u32 0), (.int .u32 0), (.int .u32 0), (.int .u32 0), (.int .u32 0), (.int .u32 0), (.int .u32 0), (.int .u32 0), (.int .u32 0), (.int .u32 0), (.int .u32 0), (.int .u32 0), (.int .u32 0), (.int .u32 0), (.int .u32 0), (.int .u32 0), (.int .u32 0), (.int .u32 0), (.int .u32 0)]), none⟩])
 (.seq (.seq (.reg [⟨some 4, .p (.mov (.c (.int .i64 0))), none⟩])
 (.block 0 (.loop (.seq (.seq (.reg [⟨some 8, .p (.mov (.t 4)), none⟩,
   ⟨some 9, .p (.bin .lss (.t 8) (.c (.int .i64 16))), none⟩])
 (.cond (.t 9) .skip (.exit 0)))
 (.seq (.block 1 (.draw 36 [(5, 35), (13, 35), (22, 35), (31, 35)] [⟨some 12, .p (.mov (.t 4)), none⟩,
   ⟨some 13, .p (.mov (.t 0)), none⟩,
   ⟨some 14, .p (.mov (.t 4)), none⟩,
   ⟨some 15, .p (.bin .mul (.c (.int .i64 4)) (.t 14)), none⟩,
   ⟨some 16, .p (.idxA 1 none (.t 13) (.t 15)), none⟩,
   ⟨some 17, .h (.load false 1 (.t 16)), none⟩,
   ⟨some 18, .p (.conv .u32 (.t 17)), none⟩,
   ⟨some 19, .p (.binw .shl (.t 18) (.c (.int .u64 24))), none⟩,
   ⟨some 20, .p (.mov (.t 0)), none⟩,
   ⟨some 21, .p (.mov (.t 4)), none⟩,
   ⟨some 22, .p (.bin .mul (.c (.int .i64 4)) (.t 21)), none⟩,
   ⟨some 23, .p (.bin .add (.t 22) (.c (.int .i64 1))), none⟩,
   ⟨some 24, .p (.idxA 1 none (.t 20) (.t 23)), none⟩,
   ⟨some 25, .h (.load false 1 (.t 24)), none⟩,
   ⟨some 26, .p (.conv .u32 (.t 25)), none⟩,
   ⟨some 27, .p (.binw .shl (.t 26) (.c (.int .u64 16))), none⟩,
   ⟨some 28, .p (.binw .or (.t 19) (.t 27)), none⟩,
   ⟨some 29, .p (.mov (.t 0)), none⟩,
   ⟨some 30, .p (.mov (.t 4)), none⟩,
   ⟨some 31, .p (.bin .mul (.c (.int .i64 4)) (.t 30)), none⟩,
   ⟨some 32, .p (.bin .add (.t 31) (.c (.int .i64 2))), none⟩,
   ⟨some 33, .p (.idxA 1 none (.t 29) (.t 32)), none⟩,
   ⟨some 34, .h (.load false 1 (.t 33)), none⟩,
   ⟨some 35, .p (.conv .u32 (.t 34)), none⟩,
   ⟨some 36, .p (.binw .shl (.t 35) (.c (.int .u64 8))), none⟩,
   ⟨some 37, .p (.binw .or (.t 28) (.t 36)), none⟩,
   ⟨some 38, .p (.mov (.t 0)), none⟩,
   ⟨some 39, .p (.mov (.t 4)), none⟩,
   ⟨some 40, .p (.bin .mul (.c (.int .i64 4)) (.t 39)), none⟩,
   ⟨some 41, .p (.bin .add (.t 40) (.c (.int .i64 3))), none⟩,
   ⟨some 42, .p (.idxA 1 none (.t 38) (.t 41)), none⟩,
   ⟨some 43, .h (.load false 1 (.t 42)), none⟩,
   ⟨some 44, .p (.conv .u32 (.t 43)), none⟩,
   ⟨some 45, .p (.binw .or (.t 37) (.t 44)), none⟩,
   ⟨some 46, .p (.idxA 1 (some 64) (.t 3) (.t 12)), none⟩,
   ⟨none, .h (.store 1 (.t 46) (.t 45)), none⟩]))
 (.reg [⟨some 10, .p (.mov (.t 4)), none⟩,
   ⟨some 11, .p (.bin .add (.t 10) (.c (.int .i64 1))), none⟩,
   ⟨some 4, .p (.mov (.t 11)), none⟩]))))))
 (.seq (.seq (.reg [⟨some 5, .p (.mov (.c (.int .i64 16))), none⟩])
 (.block 2 (.loop (.seq (.seq (.reg [⟨some 47, .p (.mov (.t 5)), none⟩,
   ⟨some 48, .p (.bin .lss (.t 47) (.c (.int .i64 64))), none⟩])
 (.cond (.t 48) .skip (.exit 2)))
 (.seq (.block 3 (.seq (.draw 18 [] [⟨some 51, .p (.mov (.t 5)), none⟩,
   ⟨some 52, .p (.bin .sub (.t 51) (.c (.int .i64 15))), none⟩,
   ⟨some 53, .p (.idxA 1 (some 64) (.t 3) (.t 52)), none⟩,
   ⟨some 54, .h (.load false 1 (.t 53)), none⟩,
   ⟨some 55, .call 111 [(.t 54), (.c (.int .i64 7))], none⟩,
   ⟨some 56, .p (.mov (.t 5)), none⟩,
   ⟨some 57, .p (.bin .sub (.t 56) (.c (.int .i64 15))), none⟩,
   ⟨some 58, .p (.idxA 1 (some 64) (.t 3) (.t 57)), none⟩,
   ⟨some 59, .h (.load false 1 (.t 58)), none⟩,
   ⟨some 60, .call 111 [(.t 59), (.c (.int .i64 18))], none⟩,
   ⟨some 61, .p (.binw .xor (.t 55) (.t 60)), none⟩,
   ⟨some 62, .p (.mov (.t 5)), none⟩,
   ⟨some 63, .p (.bin .sub (.t 62) (.c (.int .i64 15))), none⟩,
   ⟨some 64, .p (.idxA 1 (some 64) (.t 3) (.t 63)), none⟩,
   ⟨some 65, .h (.load false 1 (.t 64)), none⟩,
   ⟨some 66, .p (.binw .shr (.t 65) (.c (.int .u64 3))), none⟩,
   ⟨some 67, .p (.binw .xor (.t 61) (.t 66)), none⟩,
   ⟨some 6, .p (.mov (.t 67)), none⟩])
 (.seq (.draw 18 [] [⟨some 68, .p (.mov (.t 5)), none⟩,
   ⟨some 69, .p (.bin .sub (.t 68) (.c (.int .i64 2))), none⟩,
   ⟨some 70, .p (.idxA 1 (some 64) (.t 3) (.t 69)), none⟩,
   ⟨some 71, .h (.load false 1 (.t 70)), none⟩,
   ⟨some 72, .call 111 [(.t 71), (.c (.int .i64 17))], none⟩,
   ⟨some 73, .p (.mov (.t 5)), none⟩,
   ⟨some 74, .p (.bin .sub (.t 73) (.c (.int .i64 2))), none⟩,
   ⟨some 75, .p (.idxA 1 (some 64) (.t 3) (.t 74)), none⟩,
   ⟨some 76, .h (.load false 1 (.t 75)), none⟩,
   ⟨some 77, .call 111 [(.t 76), (.c (.int .i64 19))], none⟩,
   ⟨some 78, .p (.binw .xor (.t 72) (.t 77)), none⟩,
   ⟨some 79, .p (.mov (.t 5)), none⟩,
   ⟨some 80, .p (.bin .sub (.t 79) (.c (.int .i64 2))), none⟩,
   ⟨some 81, .p (.idxA 1 (some 64) (.t 3) (.t 80)), none⟩,
   ⟨some 82, .h (.load false 1 (.t 81)), none⟩,
   ⟨some 83, .p (.binw .shr (.t 82) (.c (.int .u64 10))), none⟩,
   ⟨some 84, .p (.binw .xor (.t 78) (.t 83)), none⟩,
   ⟨some 7, .p (.mov (.t 84)), none⟩])
 (.draw 16 [(4, 15), (10, 15)] [⟨some 85, .p (.mov (.t 5)), none⟩,
   ⟨some 86, .p (.mov (.t 5)), none⟩,
   ⟨some 87, .p (.bin .sub (.t 86) (.c (.int .i64 16))), none⟩,
   ⟨some 88, .p (.idxA 1 (some 64) (.t 3) (.t 87)), none⟩,
   ⟨some 89, .h (.load false 1 (.t 88)), none⟩,
   ⟨some 90, .p (.mov (.t 6)), none⟩,
   ⟨some 91, .p (.binw .add (.t 89) (.t 90)), none⟩,
   ⟨some 92, .p (.mov (.t 5)), none⟩,
   ⟨some 93, .p (.bin .sub (.t 92) (.c (.int .i64 7))), none⟩,
   ⟨some 94, .p (.idxA 1 (some 64) (.t 3) (.t 93)), none⟩,
   ⟨some 95, .h (.load false 1 (.t 94)), none⟩,
   ⟨some 96, .p (.binw .add (.t 91) (.t 95)), none⟩,
   ⟨some 97, .p (.mov (.t 7)), none⟩,
   ⟨some 98, .p (.binw .add (.t 96) (.t 97)), none⟩,
   ⟨some 99, .p (.idxA 1 (some 64) (.t 3) (.t 85)), none⟩,
   ⟨none, .h (.store 1 (.t 99) (.t 98)), none⟩]))))
 (.reg [⟨some 49, .p (.mov (.t 5)), none⟩,
   ⟨some 50, .p (.bin .add (.t 49) (.c (.int .i64 1))), none⟩,
   ⟨some 5, .p (.mov (.t 50)), none⟩]))))))
 (.seq (.reg [⟨some 100, .h (.load true 64 (.t 3)), none⟩,
   ⟨none, .h (.store 64 (.t 2) (.t 100)), none⟩])
 .ret)))))
def rs110 : List AR := [.cell 2 true 64]
theorem ok110 : okF Tryz.prog 110 101 ac110 rs110 = true := by kernel_rfl
def ac111 : AC := (.seq (.reg [⟨some 4, .p (.mov (.c (.int .u32 0))), none⟩])
 (.seq (.draw 9 [] [⟨some 5, .p (.mov (.t 0)), none⟩,
   ⟨some 6, .p (.mov (.t 1)), none⟩,
   ⟨some 7, .p (.binw .shr (.t 5) (.t 6)), none⟩,
   ⟨some 8, .p (.mov (.t 0)), none⟩,
   ⟨some 9, .p (.mov (.t 1)), none⟩,
   ⟨some 10, .p (.bin .sub (.c (.int .i64 32)) (.t 9)), none⟩,
   ⟨some 11, .p (.binw .shl (.t 8) (.t 10)), none⟩,
   ⟨some 12, .p (.binw .or (.t 7) (.t 11)), none⟩,
   ⟨some 4, .p (.mov (.t 12)), none⟩])
 .ret))
def rs111 : List AR := [.tmp 4]
theorem ok111 : okF Tryz.prog 111 13 ac111 rs111 = true := by kernel_rfl
def ac112 : AC := (.seq (.reg [sm 2 (.p (.mov (.c zi6)))])
 (.seq (.block 0 (.seq (.reg [mv 4 0, sm 5 (.p (.bin .geq (.t 4) (.c (.int .i64 1)))), mv 6 5, ⟨some 7, .p (.mov (.t 0)), (some (6, true))⟩, ⟨some 8, .p (.bin .leq (.t 7) (.c (.int .i64 12))), (some (6, true))⟩, sm 9 (.p (.pick (.t 6) (.t 8) (.c (.bool false)))), mv 3 9])
 (.cond (.t 3) (.seq (.reg [sm 2 (.p (.mov (.c (.int .i64 1))))])
 .ret) (.seq (.reg [mv 11 0, sm 12 (.p (.bin .eql (.t 11) (.c (.int .i64 16)))), mv 13 12, ⟨some 14, .p (.mov (.t 0)), (some (13, false))⟩, ⟨some 15, .p (.bin .geq (.t 14) (.c (.int .i64 20))), (some (13, false))⟩, ⟨some 16, .p (.mov (.t 15)), (some (13, false))⟩, ⟨some 17, .p (.mov (.t 0)), (some (16, true))⟩, ⟨some 18, .p (.bin .leq (.t 17) (.c (.int .i64 24))), (some (16, true))⟩, ⟨some 19, .p (.pick (.t 16) (.t 18) (.c (.bool false))), (some (13, false))⟩, sm 20 (.p (.pick (.t 13) (.c (.bool true)) (.t 19))), mv 21 20, ⟨some 22, .p (.mov (.t 0)), (some (21, false))⟩, ⟨some 23, .p (.bin .geq (.t 22) (.c (.int .i64 28))), (some (21, false))⟩, ⟨some 24, .p (.mov (.t 23)), (some (21, false))⟩, ⟨some 25, .p (.mov (.t 0)), (some (24, true))⟩, ⟨some 26, .p (.bin .leq (.t 25) (.c (.int .i64 31))), (some (24, true))⟩, ⟨some 27, .p (.pick (.t 24) (.t 26) (.c (.bool false))), (some (21, false))⟩, sm 28 (.p (.pick (.t 21) (.c (.bool true)) (.t 27))), mv 29 28, ⟨some 30, .p (.mov (.t 0)), (some (29, false))⟩, ⟨some 31, .p (.bin .eql (.t 30) (.c (.int .i64 33))), (some (29, false))⟩, sm 32 (.p (.pick (.t 29) (.c (.bool true)) (.t 31))), mv 10 32])
 (.cond (.t 10) (.seq (.reg [sm 2 (.p (.mov (.c (.int .i64 2))))])
 .ret) (.seq (.reg [mv 34 0, sm 35 (.p (.bin .eql (.t 34) (.c (.int .i64 17)))), mv 36 35, ⟨some 37, .p (.mov (.t 0)), (some (36, false))⟩, ⟨some 38, .p (.bin .eql (.t 37) (.c (.int .i64 32))), (some (36, false))⟩, sm 39 (.p (.pick (.t 36) (.c (.bool true)) (.t 38))), mv 40 39, ⟨some 41, .p (.mov (.t 0)), (some (40, false))⟩, ⟨some 42, .p (.bin .eql (.t 41) (.c (.int .i64 42))), (some (40, false))⟩, sm 43 (.p (.pick (.t 40) (.c (.bool true)) (.t 42))), mv 44 43, ⟨some 45, .p (.mov (.t 0)), (some (44, false))⟩, ⟨some 46, .p (.bin .eql (.t 45) (.c (.int .i64 43))), (some (44, false))⟩, sm 47 (.p (.pick (.t 44) (.c (.bool true)) (.t 46))), mv 48 47, ⟨some 49, .p (.mov (.t 0)), (some (48, false))⟩, ⟨some 50, .p (.bin .eql (.t 49) (.c (.int .i64 46))), (some (48, false))⟩, sm 51 (.p (.pick (.t 48) (.c (.bool true)) (.t 50))), mv 52 51, ⟨some 53, .p (.mov (.t 0)), (some (52, false))⟩, ⟨some 54, .p (.bin .eql (.t 53) (.c (.int .i64 47))), (some (52, false))⟩, sm 55 (.p (.pick (.t 52) (.c (.bool true)) (.t 54))), mv 33 55])
 (.cond (.t 33) (.seq (.reg [sm 2 (.p (.mov (.c (.int .i64 3))))])
 .ret) (.seq (.reg [mv 57 0, sm 58 (.p (.bin .eql (.t 57) (.c (.int .i64 44)))), mv 56 58])
 (.cond (.t 56) (.seq (.reg [sm 2 (.p (.mov (.c (.int .i64 4))))])
 .ret) (.seq (.reg [mv 60 0, sm 61 (.p (.bin .eql (.t 60) (.c (.int .i64 40)))), mv 62 61, ⟨some 63, .p (.mov (.t 0)), (some (62, false))⟩, ⟨some 64, .p (.bin .eql (.t 63) (.c (.int .i64 41))), (some (62, false))⟩, sm 65 (.p (.pick (.t 62) (.c (.bool true)) (.t 64))), mv 66 65, ⟨some 67, .p (.mov (.t 0)), (some (66, false))⟩, ⟨some 68, .p (.bin .eql (.t 67) (.c (.int .i64 45))), (some (66, false))⟩, sm 69 (.p (.pick (.t 66) (.c (.bool true)) (.t 68))), mv 70 69, ⟨some 71, .p (.mov (.t 0)), (some (70, false))⟩, ⟨some 72, .p (.bin .eql (.t 71) (.c (.int .i64 48))), (some (70, false))⟩, sm 73 (.p (.pick (.t 70) (.c (.bool true)) (.t 72))), mv 59 73])
 (.cond (.t 59) (.seq (.reg [sm 2 (.p (.mov (.c (.int .i64 5))))])
 .ret) .skip)))))))))))
 (.seq (.reg [sm 2 (.p (.mov (.c zi6)))])
 .ret)))
def rs112 : List AR := [.tmp 2]
theorem ok112 : okF Tryz.prog 112 74 ac112 rs112 = true := by kernel_rfl
def ac113 : AC := (.seq (.reg [sm 4 (.p (.mov (.c (.bool false))))])
 (.seq (.reg [mv 5 0, sm 6 (.p (.bin .eql (.t 5) (.c zi6))), mv 7 6, ⟨some 8, .p (.mov (.t 1)), (some (7, false))⟩, ⟨some 9, .p (.mov (.t 8)), (some (7, false))⟩, ⟨some 10, .p (.mov (.t 0)), (some (9, true))⟩, ⟨some 11, .p (.bin .geq (.t 10) (.c (.int .i64 1))), (some (9, true))⟩, ⟨some 12, .p (.pick (.t 9) (.t 11) (.c (.bool false))), (some (7, false))⟩, ⟨some 13, .p (.mov (.t 12)), (some (7, false))⟩, ⟨some 14, .p (.mov (.t 0)), (some (13, true))⟩, ⟨some 15, .p (.bin .lss (.t 14) (.c (.int .i64 16))), (some (13, true))⟩, ⟨some 16, .p (.pick (.t 13) (.t 15) (.c (.bool false))), (some (7, false))⟩, sm 17 (.p (.pick (.t 7) (.c (.bool true)) (.t 16))), mv 4 17])
 .ret))
def rs113 : List AR := [.tmp 4]
theorem ok113 : okF Tryz.prog 113 18 ac113 rs113 = true := by kernel_rfl
def ac114 : AC := (.seq (.reg [sm 4 (.p (.mov (.c (.bool false))))])
 (.seq (.seq (.reg [mv 5 0])
 (.block 0 (.seq (.reg [sm 7 (.p (.bin .eql (.t 5) (.c (.int .i64 1)))), mv 6 7])
 (.cond (.t 6) (.seq (.reg [mv 8 1, sm 9 (.p (.bin .leq (.t 8) (.c (.int .i64 3)))), mv 4 9])
 .ret) (.seq (.reg [sm 11 (.p (.bin .eql (.t 5) (.c (.int .i64 2)))), mv 10 11])
 (.cond (.t 10) (.seq (.reg [mv 12 1, sm 13 (.p (.bin .neq (.t 12) (.c (.int .i64 3)))), mv 4 13])
 .ret) (.seq (.reg [sm 15 (.p (.bin .eql (.t 5) (.c (.int .i64 3)))), mv 14 15])
 (.cond (.t 14) (.seq (.reg [mv 16 1, sm 17 (.p (.bin .eql (.t 16) (.c (.int .i64 1)))), mv 18 17, ⟨some 19, .p (.mov (.t 1)), (some (18, false))⟩, ⟨some 20, .p (.bin .eql (.t 19) (.c (.int .i64 4))), (some (18, false))⟩, sm 21 (.p (.pick (.t 18) (.c (.bool true)) (.t 20))), mv 4 21])
 .ret) (.seq (.reg [sm 23 (.p (.bin .eql (.t 5) (.c (.int .i64 4)))), mv 22 23])
 (.cond (.t 22) (.seq (.reg [mv 24 1, sm 25 (.p (.bin .eql (.t 24) (.c (.int .i64 2)))), mv 4 25])
 .ret) .skip))))))))))
 (.seq (.reg [sm 4 (.p (.mov (.c (.bool false))))])
 .ret)))
def rs114 : List AR := [.tmp 4]
theorem ok114 : okF Tryz.prog 114 26 ac114 rs114 = true := by kernel_rfl
def ac115 : AC := (.seq (.reg [⟨some 4, .p (.mov (.c .nils)), none⟩])
 (.seq (.reg [⟨some 8, .p (.mov (.t 0)), none⟩,
   ⟨some 9, .p (.len false (.t 8)), none⟩,
   ⟨some 10, .call 9 [(.t 9)], none⟩,
   ⟨some 5, .p (.mov (.t 10)), none⟩])
 (.seq (.seq (.reg [⟨some 11, .p (.mov (.t 0)), none⟩,
   ⟨some 12, .p (.len false (.t 11)), none⟩,
   ⟨some 13, .p (.mov (.c (.int .i64 0))), none⟩])
 (.block 0 (.loop (.seq (.reg [⟨some 14, .p (.bin .lss (.t 13) (.t 12)), none⟩])
 (.seq (.cond (.t 14) .skip (.exit 0))
 (.seq (.block 1 (.seq (.reg [⟨some 15, .p (.idxA 1 none (.t 11) (.t 13)), none⟩,
   ⟨some 16, .h (.load false 1 (.t 15)), none⟩,
   ⟨some 7, .p (.mov (.t 16)), none⟩])
 (.reg [⟨some 17, .p (.mov (.t 5)), none⟩,
   ⟨some 18, .p (.mov (.t 1)), none⟩,
   ⟨some 19, .p (.mov (.t 7)), none⟩,
   ⟨some 20, .callv (.t 18) [(.t 19)], none⟩,
   ⟨some 21, .l (.append 1 1 (.t 17) (.t 20)), none⟩,
   ⟨some 5, .p (.mov (.t 21)), none⟩])))
 (.reg [⟨some 22, .p (.bin .add (.t 13) (.c (.int .i64 1))), none⟩,
   ⟨some 13, .p (.mov (.t 22)), none⟩])))))))
 (.seq (.reg [⟨some 23, .p (.mov (.t 5)), none⟩,
   ⟨some 4, .p (.mov (.t 23)), none⟩])
 .ret))))
def rs115 : List AR := [.tmp 4]
theorem ok115 : okF Tryz.prog 115 24 ac115 rs115 = true := by kernel_rfl
def ac116 : AC := (.seq (.reg [⟨some 4, .p (.mov (.c .nils)), none⟩])
 (.seq (.reg [⟨some 8, .p (.mov (.t 0)), none⟩,
   ⟨some 9, .p (.len false (.t 8)), none⟩,
   ⟨some 10, .call 9 [(.t 9)], none⟩,
   ⟨some 5, .p (.mov (.t 10)), none⟩])
 (.seq (.seq (.reg [⟨some 11, .p (.mov (.t 0)), none⟩,
   ⟨some 12, .p (.len false (.t 11)), none⟩,
   ⟨some 13, .p (.mov (.c (.int .i64 0))), none⟩])
 (.block 0 (.loop (.seq (.reg [⟨some 14, .p (.bin .lss (.t 13) (.t 12)), none⟩])
 (.seq (.cond (.t 14) .skip (.exit 0))
 (.seq (.block 1 (.seq (.reg [⟨some 15, .p (.idxA 1 none (.t 11) (.t 13)), none⟩,
   ⟨some 16, .h (.load false 1 (.t 15)), none⟩,
   ⟨some 7, .p (.mov (.t 16)), none⟩])
 (.reg [⟨some 17, .p (.mov (.t 5)), none⟩,
   ⟨some 18, .p (.mov (.t 1)), none⟩,
   ⟨some 19, .p (.mov (.t 7)), none⟩,
   ⟨some 20, .callv (.t 18) [(.t 19)], none⟩,
   ⟨some 21, .l (.append 1 1 (.t 17) (.t 20)), none⟩,
   ⟨some 5, .p (.mov (.t 21)), none⟩])))
 (.reg [⟨some 22, .p (.bin .add (.t 13) (.c (.int .i64 1))), none⟩,
   ⟨some 13, .p (.mov (.t 22)), none⟩])))))))
 (.seq (.reg [⟨some 23, .p (.mov (.t 5)), none⟩,
   ⟨some 4, .p (.mov (.t 23)), none⟩])
 .ret))))
def rs116 : List AR := [.tmp 4]
theorem ok116 : okF Tryz.prog 116 24 ac116 rs116 = true := by kernel_rfl
def ac117 : AC := (.seq (.reg [fa 6 0 1, la 7 16 6, fa 8 16 1, ld 9 8, sm 10 (.call 118 [(.t 7), (.t 9)]), sm 3 (.h (.alloc [zu8, zu8, zu8, zu8, zu8, zu8, zu8, zu8, zu8, zu8, zu8, zu8, zu8, zu8, zu8, zu8])), st 16 3 10])
 (.seq (.seq (.reg [fa 11 17 1, ld 12 11, sm 13 (.p (.len false (.t 12))), sm 14 (.p (.mov (.c zi6)))])
 (.block 0 (.loop (.seq (.reg [sm 15 (.p (.bin .lss (.t 14) (.t 13)))])
 (.seq (.cond (.t 15) .skip (.exit 0))
 (.seq (.block 1 (.seq (.reg [mv 16 14, sm 17 (.p (.idxA 5 none (.t 12) (.t 14))), la 18 5 17, sm 5 (.h (.alloc [zi6, zi6, zi6, zi6, (.str .empty)])), mv 4 16, st 5 5 18])
 (.seq (.seq (.reg [mv 19 0, mv 20 4, la 21 16 3, sm 22 (.callv (.t 19) [(.t 20), (.t 21)]), sm 23 (.p (.un .not (.t 22)))])
 (.cond (.t 23) .ret .skip))
 (.reg [la 24 16 3, la 25 5 5, sm 26 (.call 119 [(.t 24), (.t 25)]), st 16 3 26]))))
 (.reg [sm 27 (.p (.bin .add (.t 14) (.c (.int .i64 1)))), mv 14 27])))))))
 (.reg [mv 28 0, fa 29 17 1, ld 30 29, sm 31 (.p (.len false (.t 30))), la 32 16 3, sm 33 (.callv (.t 28) [(.t 31), (.t 32)])])))
def rs117 : List AR := []
theorem ok117 : okF Tryz.prog 117 34 ac117 rs117 = true := by kernel_rfl
def ac118 : AC := (.seq (.reg [sm 2 (.h (.box (.t 0))), sm 4 (.h (.alloc [zu8, zu8, zu8, zu8, zu8, zu8, zu8, zu8, zu8, zu8, zu8, zu8, zu8, zu8, zu8, zu8]))])
 (.seq (.draw 8 [(3, 5), (0, 5), (5, 6), (6, 7), (0, 7), (3, 7), (5, 7)] [sm 5 (.d (.asub 1 16 (.t 2) none none)), sm 6 (.d (.sl2s (.t 5))), mv 7 1, sm 8 (.call 9 [(.t 7)]), sm 9 (.d (.sl2s (.t 8))), sm 10 (.d (.bslice 1 2 [(.str .empty)] [(0, (.t 6)), (1, (.t 9))])), sm 11 (.call 8 [(.c (.int .i64 293)), (.t 10)]), st 16 4 11])
 .ret))
def rs118 : List AR := [.cell 4 true 16]
theorem ok118 : okF Tryz.prog 118 12 ac118 rs118 = true := by kernel_rfl
def ac119 : AC := (.seq (.reg [sm 2 (.h (.box (.t 0))), sm 3 (.h (.box (.t 1))), sm 4 (.h (.alloc [zu8, zu8, zu8, zu8, zu8, zu8, zu8, zu8, zu8, zu8, zu8, zu8, zu8, zu8, zu8, zu8]))])
 (.seq (.draw 18 [(3, 10), (5, 10), (7, 10), (9, 10), (10, 11), (14, 15), (11, 15), (10, 15), (3, 15), (5, 15), (7, 15), (9, 15), (0, 15), (15, 16), (10, 16), (16, 17), (0, 17), (3, 17), (5, 17), (7, 17), (9, 17), (10, 17), (11, 17), (14, 17), (15, 17)] [sm 5 (.d (.asub 1 16 (.t 2) none none)), sm 6 (.d (.sl2s (.t 5))), fa 7 0 3, ld 8 7, fa 9 1 3, ld 10 9, fa 11 2 3, ld 12 11, fa 13 3 3, ld 14 13, sm 15 (.d (.bslice 1 4 [zi6] [(0, (.t 8)), (1, (.t 10)), (2, (.t 12)), (3, (.t 14))])), sm 16 (.call 72 [(.t 15)]), sm 17 (.d (.sl2s (.t 16))), fa 18 4 3, ld 19 18, sm 20 (.d (.bslice 1 3 [(.str .empty)] [(0, (.t 6)), (1, (.t 17)), (2, (.t 19))])), sm 21 (.call 8 [(.c (.int .i64 290)), (.t 20)]), st 16 4 21])
 .ret))
def rs119 : List AR := [.cell 4 true 16]
theorem ok119 : okF Tryz.prog 119 22 ac119 rs119 = true := by kernel_rfl
def ac120 : AC := (.seq (.reg [sm 3 (.h (.box (.t 1))), sm 4 (.p (.mov (.c zi6))), sm 5 (.p (.mov (.c zi6)))])
 (.seq (.reg [mv 7 0, sm 8 (.p (.mkme 137 [(.t 7)])), mv 9 0, sm 10 (.p (.mkme 138 [(.t 9)])), mv 11 0, sm 12 (.p (.mkme 137 [(.t 11)])), mv 13 0, sm 14 (.p (.mkme 137 [(.t 13)])), mv 15 0, sm 16 (.p (.mkme 137 [(.t 15)])), mv 17 0, sm 18 (.p (.mkme 137 [(.t 17)])), sm 19 (.v (.build [.nilf, .nilf, .nilf, .nilf, .nilf, .nilf] [(0, 1, (.t 8)), (1, 1, (.t 10)), (2, 1, (.t 12)), (3, 1, (.t 14)), (4, 1, (.t 16)), (5, 1, (.t 18))])), sm 6 (.h (.alloc [.nilf, .nilf, .nilf, .nilf, .nilf, .nilf])), st 6 6 19])
 (.seq (.seq (.reg [fa 20 0 3, ld 21 20, sm 22 (.p (.bin .lss (.t 21) (.c zi6))), mv 23 22, ⟨some 24, .p (.fieldA 0 (.t 3)), (some (23, false))⟩, ⟨some 25, .h (.load false 1 (.t 24)), (some (23, false))⟩, ⟨some 26, .p (.bin .geq (.t 25) (.c (.int .i64 6))), (some (23, false))⟩, sm 27 (.p (.pick (.t 23) (.c (.bool true)) (.t 26)))])
 (.cond (.t 27) (.seq (.reg [mv 28 0, la 29 5 3, sm 30 (.call 137 [(.t 28), (.t 29)]), sm 31 (.p (.extract 0 (.t 30))), sm 32 (.p (.extract 1 (.t 30))), mv 4 31, mv 5 32])
 .ret) .skip))
 (.seq (.act 5 [0, 0, 0, 0, 0, 3, 2, 2, 2, 2] [fa 33 0 3, ld 34 33, sm 35 (.p (.idxA 1 (some 6) (.t 6) (.t 34))), ld 36 35, la 37 5 3, sm 38 (.callv (.t 36) [(.t 37)]), sm 39 (.p (.extract 0 (.t 38))), sm 40 (.p (.extract 1 (.t 38))), mv 4 39, mv 5 40])
 .ret))))
def rs120 : List AR := [.tmp 4, .tmp 5]
theorem ok120 : okF Tryz.prog 120 41 ac120 rs120 = true := by kernel_rfl
def ac122 : AC := (.seq (.reg [sm 2 (.p (.mov (.c zi6)))])
 (.seq (.reg [mv 3 0, sm 4 (.p (.bin .sub (.t 3) (.c (.int .i64 1)))), sm 5 (.p (.convw .u64 (.t 4))), sm 6 (.call 31 [(.t 5)]), sm 7 (.p (.bin .sub (.t 6) (.c (.int .i64 1)))), sm 8 (.p (.binw .shl (.c (.int .i64 1)) (.t 7))), mv 2 8])
 .ret))
def rs122 : List AR := [.tmp 2]
theorem ok122 : okF Tryz.prog 122 9 ac122 rs122 = true := by kernel_rfl
def ac123 : AC := (.seq (.reg [sm 2 (.h (.box (.t 0))), sm 3 (.h (.box (.t 1))), sm 4 (.h (.alloc [zu8, zu8, zu8, zu8, zu8, zu8, zu8, zu8, zu8, zu8, zu8, zu8, zu8, zu8, zu8, zu8]))])
 (.seq (.draw 7 [(2, 4), (0, 4), (4, 5), (5, 6), (0, 6), (2, 6), (4, 6)] [sm 5 (.d (.asub 1 16 (.t 2) none none)), sm 6 (.d (.sl2s (.t 5))), sm 7 (.d (.asub 1 16 (.t 3) none none)), sm 8 (.d (.sl2s (.t 7))), sm 9 (.d (.bslice 1 2 [(.str .empty)] [(0, (.t 6)), (1, (.t 8))])), sm 10 (.call 8 [(.c (.int .i64 31)), (.t 9)]), st 16 4 10])
 .ret))
def rs123 : List AR := [.cell 4 true 16]
theorem ok123 : okF Tryz.prog 123 11 ac123 rs123 = true := by kernel_rfl
def ac124 : AC := (.seq (.reg [sm 2 (.h (.alloc [zu8, zu8, zu8, zu8, zu8, zu8, zu8, zu8, zu8, zu8, zu8, zu8, zu8, zu8, zu8, zu8]))])
 (.seq (.reg [mv 3 0, sm 4 (.d (.bslice 1 1 [(.str .empty)] [(0, (.t 3))])), sm 5 (.call 8 [(.c (.int .i64 30)), (.t 4)]), st 16 2 5])
 .ret))
def rs124 : List AR := [.cell 2 true 16]
theorem ok124 : okF Tryz.prog 124 6 ac124 rs124 = true := by kernel_rfl
def ac125 : AC := (.seq (.reg [sm 1 (.h (.box (.t 0))), sm 2 (.p (.mov (.c .nils)))])
 (.seq (.reg [fa 9 0 1, ld 10 9, sm 11 (.p (.conv .i64 (.t 10))), sm 12 (.d (.bslice 1 1 [zi6] [(0, (.t 11))])), mv 3 12])
 (.seq (.seq (.reg [fa 13 1 1, la 14 16 13, sm 15 (.p (.mov (.c zi6)))])
 (.block 0 (.loop (.seq (.reg [sm 16 (.p (.bin .lss (.t 15) (.c (.int .i64 16))))])
 (.seq (.cond (.t 16) .skip (.exit 0))
 (.seq (.block 1 (.seq (.reg [sm 17 (.v (.idx false 1 16 (.t 14) (.t 15))), mv 5 17])
 (.reg [mv 18 3, mv 19 5, sm 20 (.p (.conv .i64 (.t 19))), sm 21 (.d (.bslice 1 1 [zi6] [(0, (.t 20))])), sm 22 (.l (.append 1 8 (.t 18) (.t 21))), mv 3 22])))
 (.reg [sm 23 (.p (.bin .add (.t 15) (.c (.int .i64 1)))), mv 15 23])))))))
 (.seq (.seq (.reg [fa 24 17 1, la 25 9 24, sm 26 (.p (.mov (.c zi6)))])
 (.block 2 (.loop (.seq (.reg [sm 27 (.p (.bin .lss (.t 26) (.c (.int .i64 9))))])
 (.seq (.cond (.t 27) .skip (.exit 2))
 (.seq (.block 3 (.seq (.reg [sm 28 (.v (.idx false 1 9 (.t 25) (.t 26))), mv 7 28])
 (.reg [mv 29 3, mv 30 7, sm 31 (.p (.conv .i64 (.t 30))), sm 32 (.d (.bslice 1 1 [zi6] [(0, (.t 31))])), sm 33 (.l (.append 1 8 (.t 29) (.t 32))), mv 3 33])))
 (.reg [sm 34 (.p (.bin .add (.t 26) (.c (.int .i64 1)))), mv 26 34])))))))
 (.seq (.reg [sm 8 (.p (.mov (.c zi6)))])
 (.seq (.seq (.reg [fa 35 26 1, ld 36 35])
 (.cond (.t 36) (.reg [mv 37 8, sm 38 (.p (.binw .or (.t 37) (.c (.int .i64 1)))), mv 8 38]) .skip))
 (.seq (.seq (.reg [fa 39 27 1, ld 40 39])
 (.cond (.t 40) (.reg [mv 41 8, sm 42 (.p (.binw .or (.t 41) (.c (.int .i64 2)))), mv 8 42]) .skip))
 (.seq (.seq (.reg [fa 43 28 1, ld 44 43])
 (.cond (.t 44) (.reg [mv 45 8, sm 46 (.p (.binw .or (.t 45) (.c (.int .i64 4)))), mv 8 46]) .skip))
 (.seq (.reg [mv 47 3, mv 48 8, fa 49 29 1, ld 50 49, sm 51 (.d (.bslice 1 2 [zi6] [(0, (.t 48)), (1, (.t 50))])), sm 52 (.l (.append 1 8 (.t 47) (.t 51))), sm 53 (.call 72 [(.t 52)]), mv 2 53])
 .ret)))))))))
def rs125 : List AR := [.tmp 2]
theorem ok125 : okF Tryz.prog 125 54 ac125 rs125 = true := by kernel_rfl
end Go.Proofs

set_option maxRecDepth 100000
namespace Go.Proofs
open Go Go.Eng
def ac126 : AC := (.seq (.reg [sm 1 (.h (.box (.t 0))), sm 2 (.p (.mov (.c .nils)))])
 (.seq (.draw 22 [(18, 20), (17, 20), (14, 20), (13, 20), (10, 20), (9, 20), (6, 20), (5, 20), (2, 20), (1, 20)] [fa 3 0 1, la 4 14 3, sm 5 (.call 139 [(.t 4)]), sm 6 (.d (.sl2s (.t 5))), fa 7 14 1, la 8 13 7, sm 9 (.call 140 [(.t 8)]), sm 10 (.d (.sl2s (.t 9))), fa 11 27 1, la 12 2 11, sm 13 (.call 141 [(.t 12)]), sm 14 (.d (.sl2s (.t 13))), fa 15 29 1, la 16 6 15, sm 17 (.call 142 [(.t 16)]), sm 18 (.d (.sl2s (.t 17))), fa 19 35 1, la 20 8 19, sm 21 (.call 143 [(.t 20)]), sm 22 (.d (.sl2s (.t 21))), sm 23 (.d (.bslice 1 5 [(.str .empty)] [(0, (.t 6)), (1, (.t 10)), (2, (.t 14)), (3, (.t 18)), (4, (.t 22))])), mv 2 23])
 .ret))
def rs126 : List AR := [.tmp 2]
theorem ok126 : okF Tryz.prog 126 24 ac126 rs126 = true := by kernel_rfl
def ac127 : AC := (.seq (.reg [sm 1 (.h (.box (.t 0))), sm 2 (.p (.mov (.c (.bool false))))])
 (.seq (.seq (.reg [fa 7 0 1, ld 8 7, sm 9 (.p (.bin .lss (.t 8) (.c (.int .i64 1)))), mv 10 9, ⟨some 11, .p (.fieldA 0 (.t 1)), (some (10, false))⟩, ⟨some 12, .h (.load false 1 (.t 11)), (some (10, false))⟩, ⟨some 13, .p (.bin .gtr (.t 12) (.c (.int .i64 4))), (some (10, false))⟩, sm 14 (.p (.pick (.t 10) (.c (.bool true)) (.t 13)))])
 (.cond (.t 14) (.seq (.reg [sm 2 (.p (.mov (.c (.bool false))))])
 .ret) .skip))
 (.seq (.seq (.reg [sm 15 (.p (.mov (.c zi6)))])
 (.block 0 (.loop (.seq (.reg [sm 16 (.p (.bin .lss (.t 15) (.c (.int .i64 4))))])
 (.seq (.cond (.t 16) .skip (.exit 0))
 (.seq (.block 1 (.seq (.reg [mv 17 15, mv 3 17])
 (.seq (.draw 10 [] [mv 18 3, fa 19 1 1, sm 20 (.p (.idxA 1 (some 4) (.t 19) (.t 18))), ld 21 20, mv 22 3, fa 23 5 1, sm 24 (.p (.idxA 1 (some 4) (.t 23) (.t 22))), ld 25 24, sm 26 (.p (.binw .or (.t 21) (.t 25))), mv 4 26])
 (.seq (.reg [mv 27 4, sm 28 (.p (.binw .shr (.t 27) (.c (.int .u32 5)))), sm 29 (.p (.binw .neq (.t 28) (.c zu3))), mv 30 29, ⟨some 31, .p (.mov (.t 3)), (some (30, false))⟩, ⟨some 32, .p (.fieldA 0 (.t 1)), (some (30, false))⟩, ⟨some 33, .h (.load false 1 (.t 32)), (some (30, false))⟩, ⟨some 34, .p (.bin .geq (.t 31) (.t 33)), (some (30, false))⟩, ⟨some 35, .p (.mov (.t 34)), (some (30, false))⟩, ⟨some 36, .p (.mov (.t 4)), (some (35, true))⟩, ⟨some 37, .p (.binw .neq (.t 36) (.c zu3)), (some (35, true))⟩, ⟨some 38, .p (.pick (.t 35) (.t 37) (.c (.bool false))), (some (30, false))⟩, sm 39 (.p (.pick (.t 30) (.c (.bool true)) (.t 38)))])
 (.cond (.t 39) (.seq (.reg [sm 2 (.p (.mov (.c (.bool false))))])
 .ret) .skip)))))
 (.reg [sm 40 (.p (.bin .add (.t 15) (.c (.int .i64 1)))), mv 15 40])))))))
 (.seq (.seq (.reg [fa 41 9 1, la 42 5 41, sm 43 (.p (.mov (.c zi6)))])
 (.block 2 (.loop (.seq (.reg [sm 44 (.p (.bin .lss (.t 43) (.c (.int .i64 5))))])
 (.seq (.cond (.t 44) .skip (.exit 2))
 (.seq (.block 3 (.seq (.reg [mv 45 43, sm 46 (.v (.idx false 1 5 (.t 42) (.t 43))), mv 5 45, mv 6 46])
 (.seq (.reg [mv 47 6, sm 48 (.p (.bin .lss (.t 47) (.c zi6))), mv 49 48, ⟨some 50, .p (.mov (.t 6)), (some (49, false))⟩, ⟨some 51, .p (.fieldA 0 (.t 1)), (some (49, false))⟩, ⟨some 52, .h (.load false 1 (.t 51)), (some (49, false))⟩, ⟨some 53, .p (.bin .geq (.t 50) (.t 52)), (some (49, false))⟩, sm 54 (.p (.pick (.t 49) (.c (.bool true)) (.t 53))), mv 55 54, ⟨some 56, .p (.mov (.t 6)), (some (55, false))⟩, ⟨some 57, .p (.bin .neq (.t 56) (.c zi6)), (some (55, false))⟩, ⟨some 58, .p (.mov (.t 57)), (some (55, false))⟩, ⟨some 59, .p (.mov (.t 5)), (some (58, true))⟩, ⟨some 60, .p (.convw .u32 (.t 59)), (some (58, true))⟩, ⟨some 61, .call 144 [(.t 60)], (some (58, true))⟩, ⟨some 62, .p (.un .not (.t 61)), (some (58, true))⟩, ⟨some 63, .p (.pick (.t 58) (.t 62) (.c (.bool false))), (some (55, false))⟩, sm 64 (.p (.pick (.t 55) (.c (.bool true)) (.t 63)))])
 (.cond (.t 64) (.seq (.reg [sm 2 (.p (.mov (.c (.bool false))))])
 .ret) .skip))))
 (.reg [sm 65 (.p (.bin .add (.t 43) (.c (.int .i64 1)))), mv 43 65])))))))
 (.seq (.reg [sm 2 (.p (.mov (.c (.bool true))))])
 .ret)))))
def rs127 : List AR := [.tmp 2]
theorem ok127 : okF Tryz.prog 127 66 ac127 rs127 = true := by kernel_rfl
def ac128 : AC := (.seq (.reg [sm 1 (.h (.box (.t 0))), sm 2 (.p (.mov (.c (.bool false))))])
 (.seq (.seq (.reg [fa 4 0 1, ld 5 4, sm 6 (.p (.bin .lss (.t 5) (.c zi6))), mv 7 6, ⟨some 8, .p (.fieldA 0 (.t 1)), (some (7, false))⟩, ⟨some 9, .h (.load false 1 (.t 8)), (some (7, false))⟩, ⟨some 10, .p (.bin .gtr (.t 9) (.c (.int .i64 2147483647))), (some (7, false))⟩, sm 11 (.p (.pick (.t 7) (.c (.bool true)) (.t 10)))])
 (.cond (.t 11) (.seq (.reg [sm 2 (.p (.mov (.c (.bool false))))])
 .ret) .skip))
 (.seq (.seq (.reg [sm 12 (.p (.mov (.c zi6)))])
 (.block 0 (.loop (.seq (.reg [sm 13 (.p (.bin .lss (.t 12) (.c (.int .i64 4))))])
 (.seq (.cond (.t 13) .skip (.exit 0))
 (.seq (.block 1 (.seq (.reg [mv 14 12, mv 3 14])
 (.seq (.draw 42 [] [mv 15 3, fa 16 5 1, sm 17 (.p (.idxA 1 (some 4) (.t 16) (.t 15))), ld 18 17, sm 19 (.p (.bin .lss (.t 18) (.c zi6))), mv 20 19, ⟨some 21, .p (.mov (.t 3)), (some (20, false))⟩, ⟨some 22, .p (.fieldA 5 (.t 1)), (some (20, false))⟩, ⟨some 23, .p (.idxA 1 (some 4) (.t 22) (.t 21)), (some (20, false))⟩, ⟨some 24, .h (.load false 1 (.t 23)), (some (20, false))⟩, ⟨some 25, .p (.fieldA 0 (.t 1)), (some (20, false))⟩, ⟨some 26, .h (.load false 1 (.t 25)), (some (20, false))⟩, ⟨some 27, .p (.bin .gtr (.t 24) (.t 26)), (some (20, false))⟩, sm 28 (.p (.pick (.t 20) (.c (.bool true)) (.t 27))), mv 29 28, ⟨some 30, .p (.mov (.t 3)), (some (29, false))⟩, ⟨some 31, .p (.fieldA 1 (.t 1)), (some (29, false))⟩, ⟨some 32, .p (.idxA 1 (some 4) (.t 31) (.t 30)), (some (29, false))⟩, ⟨some 33, .h (.load false 1 (.t 32)), (some (29, false))⟩, ⟨some 34, .p (.un .not (.t 33)), (some (29, false))⟩, ⟨some 35, .p (.mov (.t 34)), (some (29, false))⟩, ⟨some 36, .p (.mov (.t 3)), (some (35, true))⟩, ⟨some 37, .p (.fieldA 5 (.t 1)), (some (35, true))⟩, ⟨some 38, .p (.idxA 1 (some 4) (.t 37) (.t 36)), (some (35, true))⟩, ⟨some 39, .h (.load false 1 (.t 38)), (some (35, true))⟩, ⟨some 40, .p (.bin .neq (.t 39) (.c zi6)), (some (35, true))⟩, ⟨some 41, .p (.pick (.t 35) (.t 40) (.c (.bool false))), (some (29, false))⟩, sm 42 (.p (.pick (.t 29) (.c (.bool true)) (.t 41))), mv 43 42, ⟨some 44, .p (.mov (.t 3)), (some (43, false))⟩, ⟨some 45, .p (.fieldA 9 (.t 1)), (some (43, false))⟩, ⟨some 46, .p (.idxA 1 (some 4) (.t 45) (.t 44)), (some (43, false))⟩, ⟨some 47, .h (.load false 1 (.t 46)), (some (43, false))⟩, ⟨some 48, .p (.bin .lss (.t 47) (.c zi6)), (some (43, false))⟩, sm 49 (.p (.pick (.t 43) (.c (.bool true)) (.t 48))), mv 50 49, ⟨some 51, .p (.mov (.t 3)), (some (50, false))⟩, ⟨some 52, .p (.fieldA 9 (.t 1)), (some (50, false))⟩, ⟨some 53, .p (.idxA 1 (some 4) (.t 52) (.t 51)), (some (50, false))⟩, ⟨some 54, .h (.load false 1 (.t 53)), (some (50, false))⟩, ⟨some 55, .p (.bin .gtr (.t 54) (.c (.int .i64 1099511627776))), (some (50, false))⟩, sm 56 (.p (.pick (.t 50) (.c (.bool true)) (.t 55)))])
 (.cond (.t 56) (.seq (.reg [sm 2 (.p (.mov (.c (.bool false))))])
 .ret) .skip))))
 (.reg [sm 57 (.p (.bin .add (.t 12) (.c (.int .i64 1)))), mv 12 57])))))))
 (.seq (.reg [sm 2 (.p (.mov (.c (.bool true))))])
 .ret))))
def rs128 : List AR := [.tmp 2]
theorem ok128 : okF Tryz.prog 128 58 ac128 rs128 = true := by kernel_rfl
def ac129 : AC := (.seq (.reg [sm 1 (.h (.box (.t 0))), sm 2 (.p (.mov (.c (.bool false))))])
 (.seq (.reg [fa 3 0 1, ld 4 3, sm 5 (.p (.len true (.t 4))), sm 6 (.p (.bin .leq (.t 5) (.c (.int .i64 64)))), mv 7 6, ⟨some 8, .p (.fieldA 1 (.t 1)), (some (7, true))⟩, ⟨some 9, .h (.load false 1 (.t 8)), (some (7, true))⟩, ⟨some 10, .p (.bin .geq (.t 9) (.c zi6)), (some (7, true))⟩, sm 11 (.p (.pick (.t 7) (.t 10) (.c (.bool false)))), mv 12 11, ⟨some 13, .p (.fieldA 1 (.t 1)), (some (12, true))⟩, ⟨some 14, .h (.load false 1 (.t 13)), (some (12, true))⟩, ⟨some 15, .p (.bin .leq (.t 14) (.c (.int .i64 1099511627776))), (some (12, true))⟩, sm 16 (.p (.pick (.t 12) (.t 15) (.c (.bool false)))), mv 2 16])
 .ret))
def rs129 : List AR := [.tmp 2]
theorem ok129 : okF Tryz.prog 129 17 ac129 rs129 = true := by kernel_rfl
def ac130 : AC := (.seq (.reg [sm 2 (.h (.box (.t 0))), sm 3 (.h (.box (.t 1))), sm 4 (.p (.mov (.c (.bool false))))])
 (.seq (.reg [fa 9 2 2, ld 10 9, sm 11 (.p (.bin .eql (.t 10) (.c zi6))), mv 12 11, ⟨some 13, .p (.fieldA 2 (.t 2)), (some (12, false))⟩, ⟨some 14, .h (.load false 1 (.t 13)), (some (12, false))⟩, ⟨some 15, .p (.bin .gtr (.t 14) (.c zi6)), (some (12, false))⟩, ⟨some 16, .p (.mov (.t 15)), (some (12, false))⟩, ⟨some 17, .p (.fieldA 0 (.t 2)), (some (16, true))⟩, ⟨some 18, .p (.fieldA 1 (.t 17)), (some (16, true))⟩, ⟨some 19, .h (.load false 1 (.t 18)), (some (16, true))⟩, ⟨some 20, .call 145 [(.t 19)], (some (16, true))⟩, ⟨some 21, .p (.pick (.t 16) (.t 20) (.c (.bool false))), (some (12, false))⟩, ⟨some 22, .p (.mov (.t 21)), (some (12, false))⟩, ⟨some 23, .p (.fieldA 2 (.t 2)), (some (22, true))⟩, ⟨some 24, .h (.load false 1 (.t 23)), (some (22, true))⟩, ⟨some 25, .p (.fieldA 0 (.t 2)), (some (22, true))⟩, ⟨some 26, .p (.fieldA 1 (.t 25)), (some (22, true))⟩, ⟨some 27, .h (.load false 1 (.t 26)), (some (22, true))⟩, ⟨some 28, .p (.conv .i64 (.t 27)), (some (22, true))⟩, ⟨some 29, .p (.bin .lss (.t 24) (.t 28)), (some (22, true))⟩, ⟨some 30, .p (.pick (.t 22) (.t 29) (.c (.bool false))), (some (12, false))⟩, sm 31 (.p (.pick (.t 12) (.c (.bool true)) (.t 30))), mv 5 31])
 (.seq (.reg [fa 32 3 2, ld 33 32, sm 34 (.p (.bin .eql (.t 33) (.c zi6))), mv 35 34, ⟨some 36, .p (.fieldA 3 (.t 2)), (some (35, false))⟩, ⟨some 37, .h (.load false 1 (.t 36)), (some (35, false))⟩, ⟨some 38, .p (.bin .geq (.t 37) (.c (.int .i64 160))), (some (35, false))⟩, ⟨some 39, .p (.mov (.t 38)), (some (35, false))⟩, ⟨some 40, .p (.fieldA 3 (.t 2)), (some (39, true))⟩, ⟨some 41, .h (.load false 1 (.t 40)), (some (39, true))⟩, ⟨some 42, .p (.bin .leq (.t 41) (.c (.int .i64 165))), (some (39, true))⟩, ⟨some 43, .p (.pick (.t 39) (.t 42) (.c (.bool false))), (some (35, false))⟩, sm 44 (.p (.pick (.t 35) (.c (.bool true)) (.t 43))), mv 6 44])
 (.seq (.seq (.reg [mv 45 5, sm 46 (.p (.un .not (.t 45))), mv 47 46, ⟨some 48, .p (.mov (.t 6)), (some (47, false))⟩, ⟨some 49, .p (.un .not (.t 48)), (some (47, false))⟩, sm 50 (.p (.pick (.t 47) (.c (.bool true)) (.t 49))), mv 51 50, ⟨some 52, .p (.fieldA 4 (.t 2)), (some (51, false))⟩, ⟨some 53, .h (.load false 1 (.t 52)), (some (51, false))⟩, ⟨some 54, .p (.len false (.t 53)), (some (51, false))⟩, ⟨some 55, .p (.bin .gtr (.t 54) (.c (.int .i64 64))), (some (51, false))⟩, sm 56 (.p (.pick (.t 51) (.c (.bool true)) (.t 55))), mv 57 56, ⟨some 58, .p (.fieldA 5 (.t 2)), (some (57, false))⟩, ⟨some 59, .h (.load false 1 (.t 58)), (some (57, false))⟩, ⟨some 60, .p (.len false (.t 59)), (some (57, false))⟩, ⟨some 61, .p (.bin .gtr (.t 60) (.c (.int .i64 8))), (some (57, false))⟩, sm 62 (.p (.pick (.t 57) (.c (.bool true)) (.t 61)))])
 (.cond (.t 62) (.seq (.reg [sm 4 (.p (.mov (.c (.bool false))))])
 .ret) .skip))
 (.seq (.seq (.reg [fa 63 5 2, ld 64 63, sm 65 (.p (.len false (.t 64))), sm 66 (.p (.mov (.c zi6)))])
 (.block 0 (.loop (.seq (.reg [sm 67 (.p (.bin .lss (.t 66) (.t 65)))])
 (.seq (.cond (.t 67) .skip (.exit 0))
 (.seq (.block 1 (.seq (.reg [sm 68 (.p (.idxA 5 none (.t 64) (.t 66))), la 69 5 68, sm 8 (.h (.alloc [zu3, zu3, zi6, (.bool false), .nils])), st 5 8 69])
 (.seq (.reg [la 70 5 8, la 71 1 3, fa 72 4 2, ld 73 72, sm 74 (.p (.len false (.t 73))), sm 75 (.call 146 [(.t 70), (.t 71), (.t 74)]), sm 76 (.p (.un .not (.t 75)))])
 (.cond (.t 76) (.seq (.reg [sm 4 (.p (.mov (.c (.bool false))))])
 .ret) .skip))))
 (.reg [sm 77 (.p (.bin .add (.t 66) (.c (.int .i64 1)))), mv 66 77])))))))
 (.seq (.reg [sm 4 (.p (.mov (.c (.bool true))))])
 .ret))))))
def rs130 : List AR := [.tmp 4]
theorem ok130 : okF Tryz.prog 130 78 ac130 rs130 = true := by kernel_rfl
def ac131 : AC := (.seq (.reg [sm 1 (.h (.box (.t 0))), sm 2 (.p (.mov (.c (.bool false))))])
 (.seq (.reg [fa 4 6 1, ld 5 4, sm 6 (.p (.bin .eql (.t 5) (.c zi6))), mv 7 6, ⟨some 8, .p (.fieldA 6 (.t 1)), (some (7, false))⟩, ⟨some 9, .h (.load false 1 (.t 8)), (some (7, false))⟩, ⟨some 10, .p (.bin .geq (.t 9) (.c (.int .i64 160))), (some (7, false))⟩, ⟨some 11, .p (.mov (.t 10)), (some (7, false))⟩, ⟨some 12, .p (.fieldA 6 (.t 1)), (some (11, true))⟩, ⟨some 13, .h (.load false 1 (.t 12)), (some (11, true))⟩, ⟨some 14, .p (.bin .leq (.t 13) (.c (.int .i64 165))), (some (11, true))⟩, ⟨some 15, .p (.pick (.t 11) (.t 14) (.c (.bool false))), (some (7, false))⟩, sm 16 (.p (.pick (.t 7) (.c (.bool true)) (.t 15))), mv 3 16])
 (.seq (.reg [mv 17 3, mv 18 17, ⟨some 19, .p (.fieldA 0 (.t 1)), (some (18, true))⟩, ⟨some 20, .h (.load true 2 (.t 19)), (some (18, true))⟩, ⟨some 21, .p (.fieldA 4 (.t 1)), (some (18, true))⟩, ⟨some 22, .h (.load false 1 (.t 21)), (some (18, true))⟩, ⟨some 23, .call 147 [(.t 20), (.t 22)], (some (18, true))⟩, sm 24 (.p (.pick (.t 18) (.t 23) (.c (.bool false)))), mv 25 24, ⟨some 26, .p (.fieldA 2 (.t 1)), (some (25, true))⟩, ⟨some 27, .h (.load true 2 (.t 26)), (some (25, true))⟩, ⟨some 28, .p (.fieldA 5 (.t 1)), (some (25, true))⟩, ⟨some 29, .h (.load false 1 (.t 28)), (some (25, true))⟩, ⟨some 30, .call 147 [(.t 27), (.t 29)], (some (25, true))⟩, sm 31 (.p (.pick (.t 25) (.t 30) (.c (.bool false)))), mv 32 31, ⟨some 33, .p (.fieldA 7 (.t 1)), (some (32, true))⟩, ⟨some 34, .h (.load false 1 (.t 33)), (some (32, true))⟩, ⟨some 35, .p (.bin .geq (.t 34) (.c zi6)), (some (32, true))⟩, sm 36 (.p (.pick (.t 32) (.t 35) (.c (.bool false)))), mv 37 36, ⟨some 38, .p (.fieldA 7 (.t 1)), (some (37, true))⟩, ⟨some 39, .h (.load false 1 (.t 38)), (some (37, true))⟩, ⟨some 40, .p (.bin .leq (.t 39) (.c (.int .i64 1099511627776))), (some (37, true))⟩, sm 41 (.p (.pick (.t 37) (.t 40) (.c (.bool false)))), mv 2 41])
 .ret)))
def rs131 : List AR := [.tmp 2]
theorem ok131 : okF Tryz.prog 131 42 ac131 rs131 = true := by kernel_rfl
def ac132 : AC := (.seq (.reg [sm 1 (.h (.box (.t 0))), sm 2 (.p (.mov (.c zi6)))])
 (.seq (.reg [fa 3 0 1, ld 4 3, sm 5 (.p (.len false (.t 4))), sm 6 (.p (.bin .mul (.t 5) (.c (.int .i64 128)))), mv 2 6])
 .ret))
def rs132 : List AR := [.tmp 2]
theorem ok132 : okF Tryz.prog 132 7 ac132 rs132 = true := by kernel_rfl
def ac133 : AC := (.seq (.reg [sm 2 (.p (.mov (.c .nils)))])
 (.seq (.seq (.reg [mv 3 0, sm 4 (.nq false (.t 3))])
 (.cond (.t 4) (.seq (.reg [sm 2 (.p (.mov (.c .nils)))])
 .ret) .skip))
 (.seq (.reg [sm 5 (.l (.bslice 128 0 [zu8, zu8, zu8, zu8, zu8, zu8, zu8, zu8, zu8, zu8, zu8, zu8, zu8, zu8, zu8, zu8, zu8, zu8, zu8, zu8, zu8, zu8, zu8, zu8, zu8, zu8, zu8, zu8, zu8, zu8, zu8, zu8, zu8, zu8, zu8, zu8, zu8, zu8, zu8, zu8, zu8, zu8, zu8, zu8, zu8, zu8, zu8, zu8, zu8, zu8, zu8, zu8, zu8, zu8, zu8, zu8, zu8, zu8, zu8, zu8, zu8, zu8, zu8, zu8, zu8, zu8, zu8, zu8, zu8, zu8, zu8, zu8, zu8, zu8, zu8, zu8, zu8, zu8, zu8, zu8, zu8, zu8, zu8, zu8, zu8, zu8, zu8, zu8, zu8, zu8, zu8, zu8, zu8, zu8, zu8, zu8, zu8, zu8, zu8, zu8, zu8, zu8, zu8, zu8, zu8, zu8, zu8, zu8, zu8, zu8, zu8, zu8, zu8, zu8, zu8, zu8, zu8, zu8, zu8, zu8, zu8, zu8, zu8, zu8, zu8, zu8, zu8, zu8] [])), mv 6 0, sm 7 (.l (.append 128 128 (.t 5) (.t 6))), mv 2 7])
 .ret)))
def rs133 : List AR := [.tmp 2]
theorem ok133 : okF Tryz.prog 133 8 ac133 rs133 = true := by kernel_rfl
def ac134 : AC := (.seq (.reg [sm 3 (.h (.box (.t 0)))])
 (.block 0 (.loop (.seq (.seq (.reg [mv 7 2, sm 8 (.p (.len false (.t 7))), sm 9 (.p (.bin .gtr (.t 8) (.c zi6)))])
 (.cond (.t 9) .skip (.exit 0)))
 (.block 1 (.seq (.reg [fa 10 0 3, ld 11 10, mv 12 1, sm 13 (.p (.bin .quo (.t 12) (.c (.int .i64 128)))), sm 14 (.p (.idxA 128 none (.t 11) (.t 13))), mv 15 1, sm 16 (.p (.bin .rem (.t 15) (.c (.int .i64 128)))), sm 17 (.d (.asub 1 128 (.t 14) (some (.t 16)) none)), mv 18 2, sm 19 (.m (.copy 1 (.t 17) (.t 18))), mv 6 19])
 (.draw 8 [] [mv 20 1, mv 21 6, sm 22 (.p (.bin .add (.t 20) (.t 21))), mv 23 2, mv 24 6, sm 25 (.v (.sub 1 (.t 23) (some (.t 24)) none none)), mv 1 22, mv 2 25])))))))
def rs134 : List AR := []
theorem ok134 : okF Tryz.prog 134 26 ac134 rs134 = true := by kernel_rfl
def ac135 : AC := (.seq (.reg [⟨some 4, .p (.mov (.c (.int .u32 0))), none⟩])
 (.seq (.reg [⟨some 6, .p (.mov (.t 1)), none⟩,
   ⟨some 7, .p (.convw .u64 (.t 6)), none⟩,
   ⟨some 8, .p (.binw .and (.t 7) (.c (.int .u64 31))), none⟩,
   ⟨some 5, .p (.mov (.t 8)), none⟩])
 (.seq (.reg [⟨some 9, .p (.mov (.t 0)), none⟩,
   ⟨some 10, .p (.mov (.t 5)), none⟩,
   ⟨some 11, .p (.binw .shl (.t 9) (.t 10)), none⟩,
   ⟨some 12, .p (.mov (.t 0)), none⟩,
   ⟨some 13, .p (.mov (.t 5)), none⟩,
   ⟨some 14, .p (.binw .sub (.c (.int .u64 32)) (.t 13)), none⟩,
   ⟨some 15, .p (.binw .shr (.t 12) (.t 14)), none⟩,
   ⟨some 16, .p (.binw .or (.t 11) (.t 15)), none⟩,
   ⟨some 4, .p (.mov (.t 16)), none⟩])
 .ret)))
def rs135 : List AR := [.tmp 4]
theorem ok135 : okF Tryz.prog 135 17 ac135 rs135 = true := by kernel_rfl
def rfA1380 : AC := (.seq (.reg [mv 6 42])
 (.reg [mv 7 43]))
def rfB1380 : AC := (.block 2 (.seq (.reg [mv 44 7, sm 45 (.p (.bin .neq (.t 44) (.c zi6)))])
 (.cond (.t 45) (.seq (.reg [mv 46 6, mv 47 7, st 1 4 46, st 1 5 47])
 .ret) .skip)))
def ac138 : AC := (.seq (.reg [sm 3 (.h (.box (.t 1))), sm 4 (.h (.alloc [zi6])), sm 5 (.h (.alloc [zi6]))])
 (.seq (.block 0 (.seq (.draw 14 [] [mv 9 0, sm 10 (.p (.nilchk (.t 9))), fa 11 0 10, la 12 47 11, fa 13 1 3, ld 14 13, sm 15 (.call 148 [(.t 12), (.t 14)]), sm 16 (.p (.un .not (.t 15))), mv 17 16, ⟨some 18, .p (.fieldA 3 (.t 3)), (some (17, false))⟩, ⟨some 19, .h (.load false 1 (.t 18)), (some (17, false))⟩, ⟨some 20, .p (.bin .lss (.t 19) (.c (.int .i64 1))), (some (17, false))⟩, sm 21 (.p (.pick (.t 17) (.c (.bool true)) (.t 20))), mv 8 21])
 (.cond (.t 8) (.seq (.reg [⟨none, .h (.store 1 (.t 4) (.c zi6)), none⟩, ⟨none, .h (.store 1 (.t 5) (.c (.int .i64 1))), none⟩])
 .ret) (.seq (.draw 14 [] [fa 23 2 3, ld 24 23, mv 25 0, sm 26 (.p (.nilchk (.t 25))), fa 27 0 26, fa 28 0 27, ld 29 28, fa 30 1 3, ld 31 30, sm 32 (.p (.idxA 30 none (.t 29) (.t 31))), fa 33 29 32, ld 34 33, sm 35 (.p (.bin .neq (.t 24) (.t 34))), mv 22 35])
 (.cond (.t 22) (.seq (.reg [⟨none, .h (.store 1 (.t 4) (.c zi6)), none⟩, ⟨none, .h (.store 1 (.t 5) (.c (.int .i64 9))), none⟩])
 .ret) .skip)))))
 (.seq (.seq (.reg [mv 36 0, fa 37 1 3, ld 38 37, fa 39 3 3, ld 40 39, sm 41 (.call 150 [(.t 36), (.t 38), (.t 40)])])
 (.block 1 (.rangeF 1380 (.t 41) [4, 5] [42, 43] rfA1380 rfB1380)))
 (.seq (.reg [fa 48 3 3, ld 49 48, st 1 4 49, ⟨none, .h (.store 1 (.t 5) (.c zi6)), none⟩])
 .ret))))
def rs138 : List AR := [.cell 4 false 1, .cell 5 false 1]
theorem ok138 : okF Tryz.prog 138 50 ac138 rs138 = true := by kernel_rfl
def ac139 : AC := (.seq (.reg [sm 1 (.h (.box (.t 0))), sm 2 (.p (.mov (.c .nils)))])
 (.seq (.reg [fa 6 0 1, ld 7 6, sm 8 (.d (.bslice 1 1 [zi6] [(0, (.t 7))])), mv 3 8])
 (.seq (.seq (.draw 7 [(1, 4), (3, 4)] [fa 9 1 1, sm 10 (.d (.asub 1 4 (.t 9) none none)), fa 11 5 1, sm 12 (.d (.asub 1 4 (.t 11) none none)), sm 13 (.l (.appendF 1 4 (.t 10) (.t 12))), sm 14 (.p (.len false (.t 13))), sm 15 (.p (.mov (.c zi6)))])
 (.block 0 (.loop (.seq (.reg [sm 16 (.p (.bin .lss (.t 15) (.t 14)))])
 (.seq (.cond (.t 16) .skip (.exit 0))
 (.seq (.block 1 (.seq (.reg [sm 17 (.p (.idxA 1 none (.t 13) (.t 15))), ld 18 17, mv 5 18])
 (.reg [mv 19 3, mv 20 5, sm 21 (.p (.conv .i64 (.t 20))), sm 22 (.d (.bslice 1 1 [zi6] [(0, (.t 21))])), sm 23 (.l (.appendF 1 8 (.t 19) (.t 22))), mv 3 23])))
 (.reg [sm 24 (.p (.bin .add (.t 15) (.c (.int .i64 1)))), mv 15 24])))))))
 (.seq (.reg [mv 25 3, fa 26 9 1, sm 27 (.d (.asub 1 5 (.t 26) none none)), sm 28 (.l (.appendF 1 8 (.t 25) (.t 27))), sm 29 (.call 72 [(.t 28)]), mv 2 29])
 .ret))))
def rs139 : List AR := [.tmp 2]
theorem ok139 : okF Tryz.prog 139 30 ac139 rs139 = true := by kernel_rfl
def ac140 : AC := (.seq (.reg [sm 1 (.h (.box (.t 0))), sm 2 (.p (.mov (.c .nils)))])
 (.seq (.reg [fa 6 0 1, ld 7 6, sm 8 (.d (.bslice 1 1 [zi6] [(0, (.t 7))])), mv 3 8])
 (.seq (.seq (.reg [sm 9 (.p (.mov (.c zi6)))])
 (.block 0 (.loop (.seq (.reg [sm 10 (.p (.bin .lss (.t 9) (.c (.int .i64 4))))])
 (.seq (.cond (.t 10) .skip (.exit 0))
 (.seq (.block 1 (.seq (.reg [mv 11 9, mv 4 11])
 (.seq (.reg [sm 5 (.p (.mov (.c zi6)))])
 (.seq (.seq (.reg [mv 12 4, fa 13 1 1, sm 14 (.p (.idxA 1 (some 4) (.t 13) (.t 12))), ld 15 14])
 (.cond (.t 15) (.reg [sm 5 (.p (.mov (.c (.int .i64 1))))]) .skip))
 (.draw 13 [(5, 10), (9, 10), (10, 11), (5, 11), (9, 11)] [mv 16 3, mv 17 5, mv 18 4, fa 19 5 1, sm 20 (.p (.idxA 1 (some 4) (.t 19) (.t 18))), ld 21 20, mv 22 4, fa 23 9 1, sm 24 (.p (.idxA 1 (some 4) (.t 23) (.t 22))), ld 25 24, sm 26 (.d (.bslice 1 3 [zi6] [(0, (.t 17)), (1, (.t 21)), (2, (.t 25))])), sm 27 (.l (.append 1 8 (.t 16) (.t 26))), mv 3 27])))))
 (.reg [sm 28 (.p (.bin .add (.t 9) (.c (.int .i64 1)))), mv 9 28])))))))
 (.seq (.reg [mv 29 3, sm 30 (.call 72 [(.t 29)]), mv 2 30])
 .ret))))
def rs140 : List AR := [.tmp 2]
theorem ok140 : okF Tryz.prog 140 31 ac140 rs140 = true := by kernel_rfl
def ac141 : AC := (.seq (.reg [sm 1 (.h (.box (.t 0))), sm 2 (.p (.mov (.c .nils)))])
 (.seq (.draw 8 [(2, 6), (5, 6), (4, 6), (1, 6)] [fa 3 0 1, ld 4 3, sm 5 (.callo 28 [(.t 4)]), fa 6 1 1, ld 7 6, sm 8 (.call 9 [(.t 7)]), sm 9 (.l (.append 1 1 (.t 5) (.t 8))), mv 2 9])
 .ret))
def rs141 : List AR := [.tmp 2]
theorem ok141 : okF Tryz.prog 141 10 ac141 rs141 = true := by kernel_rfl
def ac142 : AC := (.seq (.reg [sm 1 (.h (.box (.t 0))), sm 2 (.p (.mov (.c .nils)))])
 (.seq (.reg [fa 11 0 1, fa 12 0 11, ld 13 12, sm 14 (.p (.conv .i64 (.t 13))), fa 15 0 1, fa 16 1 15, ld 17 16, sm 18 (.p (.conv .i64 (.t 17))), fa 19 2 1, ld 20 19, fa 21 3 1, ld 22 21, fa 23 4 1, ld 24 23, sm 25 (.p (.len false (.t 24))), fa 26 5 1, ld 27 26, sm 28 (.p (.len false (.t 27))), sm 29 (.d (.bslice 1 6 [zi6] [(0, (.t 14)), (1, (.t 18)), (2, (.t 20)), (3, (.t 22)), (4, (.t 25)), (5, (.t 28))])), mv 3 29])
 (.seq (.seq (.reg [fa 30 5 1, ld 31 30, sm 32 (.p (.len false (.t 31))), sm 33 (.p (.mov (.c zi6)))])
 (.block 0 (.loop (.seq (.reg [sm 34 (.p (.bin .lss (.t 33) (.t 32)))])
 (.seq (.cond (.t 34) .skip (.exit 0))
 (.seq (.block 1 (.seq (.reg [sm 35 (.p (.idxA 5 none (.t 31) (.t 33))), la 36 5 35, sm 5 (.h (.alloc [zu3, zu3, zi6, (.bool false), .nils])), st 5 5 36])
 (.seq (.draw 20 [(10, 17), (13, 17), (15, 17), (12, 17), (7, 17), (3, 17), (17, 18), (13, 18), (12, 18), (10, 18), (15, 18), (7, 18), (3, 18)] [mv 37 3, fa 38 0 5, fa 39 0 38, ld 40 39, sm 41 (.p (.conv .i64 (.t 40))), fa 42 0 5, fa 43 1 42, ld 44 43, sm 45 (.p (.conv .i64 (.t 44))), fa 46 2 5, ld 47 46, fa 48 3 5, ld 49 48, sm 50 (.call 151 [(.t 49)]), fa 51 4 5, ld 52 51, sm 53 (.p (.len false (.t 52))), sm 54 (.d (.bslice 1 5 [zi6] [(0, (.t 41)), (1, (.t 45)), (2, (.t 47)), (3, (.t 50)), (4, (.t 53))])), sm 55 (.l (.append 1 8 (.t 37) (.t 54))), mv 3 55])
 (.seq (.reg [fa 56 4 5, ld 57 56, sm 58 (.p (.len false (.t 57))), sm 59 (.p (.mov (.c zi6)))])
 (.block 2 (.loop (.seq (.reg [sm 60 (.p (.bin .lss (.t 59) (.t 58)))])
 (.seq (.cond (.t 60) .skip (.exit 2))
 (.seq (.block 3 (.seq (.reg [sm 61 (.p (.idxA 4 none (.t 57) (.t 59))), la 62 4 61, sm 7 (.h (.alloc [zi6, zi6, zi6, (.bool false)])), st 4 7 62])
 (.draw 13 [(2, 10), (4, 10), (6, 10), (9, 10), (8, 10), (10, 11), (9, 11), (8, 11), (2, 11), (4, 11), (6, 11)] [mv 63 3, fa 64 0 7, ld 65 64, fa 66 1 7, ld 67 66, fa 68 2 7, ld 69 68, fa 70 3 7, ld 71 70, sm 72 (.call 151 [(.t 71)]), sm 73 (.d (.bslice 1 4 [zi6] [(0, (.t 65)), (1, (.t 67)), (2, (.t 69)), (3, (.t 72))])), sm 74 (.l (.append 1 8 (.t 63) (.t 73))), mv 3 74])))
 (.reg [sm 75 (.p (.bin .add (.t 59) (.c (.int .i64 1)))), mv 59 75]))))))))))
 (.reg [sm 76 (.p (.bin .add (.t 33) (.c (.int .i64 1)))), mv 33 76])))))))
 (.seq (.reg [mv 77 3, sm 78 (.call 72 [(.t 77)]), mv 8 78])
 (.seq (.seq (.reg [fa 79 4 1, ld 80 79, sm 81 (.p (.len false (.t 80))), sm 82 (.p (.mov (.c zi6)))])
 (.block 4 (.loop (.seq (.reg [sm 83 (.p (.bin .lss (.t 82) (.t 81)))])
 (.seq (.cond (.t 83) .skip (.exit 4))
 (.seq (.block 5 (.seq (.reg [sm 84 (.p (.idxA 128 none (.t 80) (.t 82))), la 85 128 84, sm 10 (.h (.alloc [zu8, zu8, zu8, zu8, zu8, zu8, zu8, zu8, zu8, zu8, zu8, zu8, zu8, zu8, zu8, zu8, zu8, zu8, zu8, zu8, zu8, zu8, zu8, zu8, zu8, zu8, zu8, zu8, zu8, zu8, zu8, zu8, zu8, zu8, zu8, zu8, zu8, zu8, zu8, zu8, zu8, zu8, zu8, zu8, zu8, zu8, zu8, zu8, zu8, zu8, zu8, zu8, zu8, zu8, zu8, zu8, zu8, zu8, zu8, zu8, zu8, zu8, zu8, zu8, zu8, zu8, zu8, zu8, zu8, zu8, zu8, zu8, zu8, zu8, zu8, zu8, zu8, zu8, zu8, zu8, zu8, zu8, zu8, zu8, zu8, zu8, zu8, zu8, zu8, zu8, zu8, zu8, zu8, zu8, zu8, zu8, zu8, zu8, zu8, zu8, zu8, zu8, zu8, zu8, zu8, zu8, zu8, zu8, zu8, zu8, zu8, zu8, zu8, zu8, zu8, zu8, zu8, zu8, zu8, zu8, zu8, zu8, zu8, zu8, zu8, zu8, zu8, zu8])), st 128 10 85])
 (.reg [mv 86 8, sm 87 (.d (.asub 1 128 (.t 10) none none)), sm 88 (.l (.append 1 1 (.t 86) (.t 87))), mv 8 88])))
 (.reg [sm 89 (.p (.bin .add (.t 82) (.c (.int .i64 1)))), mv 82 89])))))))
 (.seq (.reg [mv 90 8, mv 2 90])
 .ret))))))
def rs142 : List AR := [.tmp 2]
theorem ok142 : okF Tryz.prog 142 91 ac142 rs142 = true := by kernel_rfl
def ac143 : AC := (.seq (.reg [sm 1 (.h (.box (.t 0))), sm 2 (.p (.mov (.c .nils)))])
 (.seq (.reg [fa 3 0 1, fa 4 0 3, ld 5 4, sm 6 (.p (.conv .i64 (.t 5))), fa 7 0 1, fa 8 1 7, ld 9 8, sm 10 (.p (.conv .i64 (.t 9))), fa 11 2 1, fa 12 0 11, ld 13 12, sm 14 (.p (.conv .i64 (.t 13))), fa 15 2 1, fa 16 1 15, ld 17 16, sm 18 (.p (.conv .i64 (.t 17))), fa 19 4 1, ld 20 19, fa 21 5 1, ld 22 21, fa 23 6 1, ld 24 23, fa 25 7 1, ld 26 25, sm 27 (.d (.bslice 1 8 [zi6] [(0, (.t 6)), (1, (.t 10)), (2, (.t 14)), (3, (.t 18)), (4, (.t 20)), (5, (.t 22)), (6, (.t 24)), (7, (.t 26))])), sm 28 (.call 72 [(.t 27)]), mv 2 28])
 .ret))
def rs143 : List AR := [.tmp 2]
theorem ok143 : okF Tryz.prog 143 29 ac143 rs143 = true := by kernel_rfl
def ac147 : AC := (.seq (.reg [sm 2 (.h (.box (.t 0))), sm 4 (.p (.mov (.c (.bool false))))])
 (.seq (.seq (.reg [fa 5 1 2, ld 6 5])
 (.block 0 (.seq (.block 4 (.block 3 (.block 2 (.block 1 (.seq (.seq (.seq (.reg [sm 8 (.p (.binw .eql (.t 6) (.c (.int .u32 1)))), mv 7 8])
 (.cond (.t 7) (.exit 1) .skip))
 (.seq (.seq (.reg [sm 10 (.p (.binw .eql (.t 6) (.c (.int .u32 2)))), mv 9 10])
 (.cond (.t 9) (.exit 2) .skip))
 (.seq (.seq (.reg [sm 12 (.p (.binw .eql (.t 6) (.c (.int .u32 4)))), mv 11 12])
 (.cond (.t 11) (.exit 3) .skip))
 (.seq (.reg [sm 14 (.p (.binw .eql (.t 6) (.c (.int .u32 8)))), mv 13 14])
 (.cond (.t 13) (.exit 4) .skip)))))
 (.exit 0))))))
 (.seq (.seq (.reg [mv 15 1, sm 16 (.p (.bin .geq (.t 15) (.c zi6))), mv 17 16, ⟨some 18, .p (.mov (.t 1)), (some (17, true))⟩, ⟨some 19, .p (.fieldA 1 (.t 2)), (some (17, true))⟩, ⟨some 20, .h (.load false 1 (.t 19)), (some (17, true))⟩, ⟨some 21, .p (.conv .i64 (.t 20)), (some (17, true))⟩, ⟨some 22, .p (.bin .lss (.t 18) (.t 21)), (some (17, true))⟩, sm 23 (.p (.pick (.t 17) (.t 22) (.c (.bool false)))), mv 4 23])
 .ret)
 (.exit 0)))))
 (.seq (.reg [mv 24 1, sm 25 (.p (.bin .eql (.t 24) (.c zi6))), mv 4 25])
 .ret)))
def rs147 : List AR := [.tmp 4]
theorem ok147 : okF Tryz.prog 147 26 ac147 rs147 = true := by kernel_rfl
def ac148 : AC := (.seq (.reg [sm 2 (.h (.box (.t 0))), sm 4 (.p (.mov (.c (.bool false))))])
 (.seq (.reg [mv 5 1, sm 6 (.p (.bin .geq (.t 5) (.c zi6))), mv 7 6, ⟨some 8, .p (.mov (.t 1)), (some (7, true))⟩, ⟨some 9, .p (.fieldA 0 (.t 2)), (some (7, true))⟩, ⟨some 10, .h (.load false 1 (.t 9)), (some (7, true))⟩, ⟨some 11, .p (.len false (.t 10)), (some (7, true))⟩, ⟨some 12, .p (.bin .lss (.t 8) (.t 11)), (some (7, true))⟩, sm 13 (.p (.pick (.t 7) (.t 12) (.c (.bool false)))), mv 4 13])
 .ret))
def rs148 : List AR := [.tmp 4]
theorem ok148 : okF Tryz.prog 148 14 ac148 rs148 = true := by kernel_rfl
def ac150 : AC := (.seq (.reg [sm 3 (.h (.box (.t 0))), sm 4 (.h (.box (.t 1))), sm 5 (.h (.box (.t 2))), sm 6 (.p (.mov (.c .nilf)))])
 (.seq (.reg [sm 7 (.p (.mkfn 160 [(.t 5), (.t 3), (.t 4)])), mv 6 7])
 .ret))
def rs150 : List AR := [.tmp 6]
theorem ok150 : okF Tryz.prog 150 8 ac150 rs150 = true := by kernel_rfl
def ac160 : AC := (.seq (.reg [ld 8 1, sm 9 (.p (.mov (.c zi6)))])
 (.block 0 (.loop (.seq (.reg [sm 10 (.p (.bin .lss (.t 9) (.t 8)))])
 (.seq (.cond (.t 10) .skip (.exit 0))
 (.seq (.block 1 (.seq (.reg [mv 11 9, mv 5 11])
 (.seq (.reg [ld 13 2, ld 14 3, sm 15 (.call 161 [(.t 13), (.t 14)]), mv 12 15, sm 16 (.p (.extract 0 (.t 12))), sm 17 (.p (.extract 1 (.t 12))), sm 6 (.h (.alloc [(.bool false), zu3, zu3, zu3, zu3, zu3, zu3, zu3, zu3, zu3, zu3, zu3, zu3, zu3, zu3, zu3, zu3, zu3, zu3, zu3, zu3, zu3, zu3, zu3, zu3, zu3, zu3, (.bool false), (.bool false), (.bool false), zi6, zu3, zu3, zu3, zu3, zu3, zu3, zu3, zu3, zu3, zu3, zu3, zu3, zu3, zu3, zu3, zu3, zu3, zu3, zu3, zu3, zu3, zu3, zu3, zu3, zu3, zu3, (.bool false), (.bool false), (.bool false), zi6, zu3, .nils, .nils, (.bool false), (.bool false), zi6, zu3, zi6, zu3, zi6])), st 71 6 16, mv 7 17])
 (.seq (.seq (.reg [mv 18 7, sm 19 (.p (.bin .eql (.t 18) (.c zi6))), mv 20 19, ⟨some 21, .p (.fieldA 0 (.t 6)), (some (20, true))⟩, ⟨some 22, .h (.load false 1 (.t 21)), (some (20, true))⟩, ⟨some 23, .p (.un .not (.t 22)), (some (20, true))⟩, sm 24 (.p (.pick (.t 20) (.t 23) (.c (.bool false))))])
 (.cond (.t 24) (.reg [sm 7 (.p (.mov (.c (.int .i64 4))))]) .skip))
 (.seq (.seq (.reg [mv 25 7, sm 26 (.p (.bin .neq (.t 25) (.c zi6)))])
 (.cond (.t 26) (.seq (.reg [mv 27 0, mv 28 5, mv 29 7, sm 30 (.callv (.t 27) [(.t 28), (.t 29)])])
 .ret) .skip))
 (.seq (.reg [mv 31 0, mv 32 5, sm 33 (.p (.bin .add (.t 32) (.c (.int .i64 1)))), sm 34 (.callv (.t 31) [(.t 33), (.c zi6)]), sm 35 (.p (.un .not (.t 34)))])
 (.cond (.t 35) .ret .skip)))))))
 (.reg [sm 36 (.p (.bin .add (.t 9) (.c (.int .i64 1)))), mv 9 36])))))))
def rs160 : List AR := []
theorem ok160 : okF Tryz.prog 160 37 ac160 rs160 = true := by kernel_rfl
def ac161 : AC := (.seq (.reg [sm 4 (.h (.alloc [(.bool false), zu3, zu3, zu3, zu3, zu3, zu3, zu3, zu3, zu3, zu3, zu3, zu3, zu3, zu3, zu3, zu3, zu3, zu3, zu3, zu3, zu3, zu3, zu3, zu3, zu3, zu3, (.bool false), (.bool false), (.bool false), zi6, zu3, zu3, zu3, zu3, zu3, zu3, zu3, zu3, zu3, zu3, zu3, zu3, zu3, zu3, zu3, zu3, zu3, zu3, zu3, zu3, zu3, zu3, zu3, zu3, zu3, zu3, (.bool false), (.bool false), (.bool false), zi6, zu3, .nils, .nils, (.bool false), (.bool false), zi6, zu3, zi6, zu3, zi6])), sm 5 (.p (.mov (.c zi6)))])
 (.seq (.seq (.reg [mv 11 0, sm 12 (.p (.nilchk (.t 11))), fa 13 0 12, fa 14 0 13, ld 15 14, mv 16 1, sm 17 (.p (.idxA 30 none (.t 15) (.t 16))), fa 18 29 17, ld 19 18, sm 20 (.p (.bin .geq (.t 19) (.c (.int .i64 1099511627776)))), mv 21 20, ⟨some 22, .p (.mov (.t 0)), (some (21, false))⟩, ⟨some 23, .p (.nilchk (.t 22)), (some (21, false))⟩, ⟨some 24, .p (.fieldA 0 (.t 23)), (some (21, false))⟩, ⟨some 25, .p (.fieldA 46 (.t 24)), (some (21, false))⟩, ⟨some 26, .h (.load false 1 (.t 25)), (some (21, false))⟩, ⟨some 27, .p (.bin .gtr (.t 26) (.c (.int .i64 1125899906842616))), (some (21, false))⟩, sm 28 (.p (.pick (.t 21) (.c (.bool true)) (.t 27)))])
 (.cond (.t 28) (.seq (.reg [sm 29 (.v (.build [(.bool false), zu3, zu3, zu3, zu3, zu3, zu3, zu3, zu3, zu3, zu3, zu3, zu3, zu3, zu3, zu3, zu3, zu3, zu3, zu3, zu3, zu3, zu3, zu3, zu3, zu3, zu3, (.bool false), (.bool false), (.bool false), zi6, zu3, zu3, zu3, zu3, zu3, zu3, zu3, zu3, zu3, zu3, zu3, zu3, zu3, zu3, zu3, zu3, zu3, zu3, zu3, zu3, zu3, zu3, zu3, zu3, zu3, zu3, (.bool false), (.bool false), (.bool false), zi6, zu3, .nils, .nils, (.bool false), (.bool false), zi6, zu3, zi6, zu3, zi6] [])), st 71 4 29, sm 5 (.p (.mov (.c (.int .i64 2))))])
 .ret) .skip))
 (.seq (.draw 23 [(21, 22), (20, 22), (4, 22), (7, 22), (12, 22), (17, 22), (19, 22)] [mv 30 0, sm 31 (.p (.nilchk (.t 30))), fa 32 0 31, fa 33 0 32, ld 34 33, mv 35 1, sm 36 (.p (.idxA 30 none (.t 34) (.t 35))), la 37 30 36, mv 38 0, sm 39 (.p (.nilchk (.t 38))), fa 40 0 39, fa 41 1 40, la 42 1 41, mv 43 0, sm 44 (.p (.nilchk (.t 43))), fa 45 0 44, fa 46 2 45, la 47 43 46, mv 48 1, sm 49 (.call 172 [(.t 47), (.t 48)]), sm 50 (.call 171 [(.t 37), (.t 42), (.t 49)]), sm 6 (.h (.alloc [(.bool false), zu3, zu3, zu3, zu3, zu3, zu3, zu3, zu3, zu3, zu3, zu3, zu3, zu3, zu3, zu3, zu3, zu3, zu3, zu3, zu3, zu3, zu3, zu3, zu3, zu3, zu3, (.bool false), (.bool false), (.bool false), zi6, zu3, zu3, zu3, zu3, zu3, zu3, zu3, zu3, zu3, zu3, zu3, zu3, zu3, zu3, zu3, zu3, zu3, zu3, zu3, zu3, zu3, zu3, zu3, zu3, zu3, zu3, (.bool false), (.bool false), (.bool false), zi6, zu3, .nils, .nils, (.bool false), (.bool false), zi6, zu3, zi6, zu3, zi6])), st 71 6 50])
 (.seq (.seq (.reg [fa 51 0 6, ld 52 51, sm 53 (.p (.un .not (.t 52)))])
 (.cond (.t 53) (.seq (.reg [la 54 71 6, st 71 4 54, sm 5 (.p (.mov (.c zi6)))])
 .ret) .skip))
 (.seq (.draw 14 [(10, 12), (4, 12), (11, 12), (11, 13), (9, 13), (12, 13), (4, 13), (10, 13)] [mv 55 0, sm 56 (.p (.nilchk (.t 55))), fa 57 0 56, fa 58 1 57, la 59 1 58, mv 60 0, sm 61 (.p (.nilchk (.t 60))), fa 62 0 61, fa 63 2 62, la 64 43 63, sm 7 (.h (.alloc [.nils])), sm 8 (.h (.alloc [zi6, zu3, zu3, zu3, zu3, zu3, zu3, zu3, zu3, zi6, zi6, zi6, zi6, zi6, zi6, (.bool false), (.bool false), (.bool false), (.bool false), zi6, zi6, zi6, zi6, zi6, zi6, zi6, zi6, (.str .empty), zi6, zu3, zu3, zi6, zi6, .nils, .nils, zu3, zu3, zu3, zu3, zi6, zi6, zi6, zi6])), st 1 7 59, st 43 8 64])
 (.seq (.seq (.reg [fa 65 62 6, ld 66 65, sm 67 (.p (.len false (.t 66))), sm 68 (.p (.bin .gtr (.t 67) (.c zi6)))])
 (.cond (.t 68) (.reg [la 70 1 7, fa 71 62 6, ld 72 71, sm 73 (.call 173 [(.t 70), (.t 72)]), mv 69 73, sm 74 (.p (.extract 0 (.t 69))), sm 75 (.p (.extract 1 (.t 69))), st 1 7 74]) .skip))
 (.seq (.seq (.reg [fa 76 64 6, ld 77 76])
 (.cond (.t 77) (.seq (.reg [la 79 43 8, la 80 1 7, mv 81 1, fa 82 1 6, fa 83 29 82, ld 84 83, fa 85 65 6, la 86 3 85, sm 87 (.call 174 [(.t 79), (.t 80), (.t 81), (.t 84), (.t 86)]), mv 78 87, sm 88 (.p (.extract 0 (.t 78))), sm 89 (.p (.extract 1 (.t 78))), sm 9 (.h (.alloc [zi6, zu3, zu3, zu3, zu3, zu3, zu3, zu3, zu3, zi6, zi6, zi6, zi6, zi6, zi6, (.bool false), (.bool false), (.bool false), (.bool false), zi6, zi6, zi6, zi6, zi6, zi6, zi6, zi6, (.str .empty), zi6, zu3, zu3, zi6, zi6, .nils, .nils, zu3, zu3, zu3, zu3, zi6, zi6, zi6, zi6])), sm 10 (.h (.alloc [.nils, zu3, .nils, zi6])), st 43 9 88, st 4 10 89])
 (.seq (.seq (.reg [fa 90 3 10, ld 91 90, sm 92 (.p (.bin .eql (.t 91) (.c (.int .i64 4))))])
 (.cond (.t 92) (.seq (.draw 5 [] [sm 93 (.v (.build [(.bool false), zu3, zu3, zu3, zu3, zu3, zu3, zu3, zu3, zu3, zu3, zu3, zu3, zu3, zu3, zu3, zu3, zu3, zu3, zu3, zu3, zu3, zu3, zu3, zu3, zu3, zu3, (.bool false), (.bool false), (.bool false), zi6, zu3, zu3, zu3, zu3, zu3, zu3, zu3, zu3, zu3, zu3, zu3, zu3, zu3, zu3, zu3, zu3, zu3, zu3, zu3, zu3, zu3, zu3, zu3, zu3, zu3, zu3, (.bool false), (.bool false), (.bool false), zi6, zu3, .nils, .nils, (.bool false), (.bool false), zi6, zu3, zi6, zu3, zi6] [])), fa 94 3 10, ld 95 94, st 71 4 93, mv 5 95])
 .ret) .skip))
 (.seq (.reg [la 96 71 6, fa 97 1 10, ld 98 97, fa 99 3 10, ld 100 99, sm 101 (.p (.bin .eql (.t 100) (.c zi6))), sm 102 (.call 175 [(.t 96), (.t 98), (.t 101)]), st 71 6 102])
 (.seq (.draw 5 [(1, 3), (2, 4), (3, 4), (1, 4)] [fa 103 0 10, la 104 1 103, la 105 43 9, st 1 7 104, st 43 8 105])
 (.reg [mv 106 0, fa 107 2 10, ld 108 107, sm 109 (.call 176 [(.t 106), (.t 108)])]))))) .skip))
 (.seq (.reg [mv 110 0, la 111 1 7, sm 112 (.p (.nilchk (.t 110))), fa 113 0 112, fa 114 1 113, st 1 114 111])
 (.seq (.reg [mv 115 0, mv 116 0, sm 117 (.p (.nilchk (.t 116))), fa 118 0 117, fa 119 0 118, ld 120 119, sm 121 (.l (.append 30 120 (.c .nils) (.t 120))), sm 122 (.p (.nilchk (.t 115))), fa 123 0 122, fa 124 0 123, st 1 124 121])
 (.seq (.draw 10 [(7, 9), (4, 9)] [mv 125 0, sm 126 (.p (.nilchk (.t 125))), fa 127 0 126, fa 128 0 127, ld 129 128, mv 130 1, fa 131 1 6, la 132 30 131, sm 133 (.p (.idxA 30 none (.t 129) (.t 130))), st 30 133 132])
 (.seq (.reg [mv 134 0, la 135 43 8, mv 136 1, fa 137 1 6, fa 138 29 137, ld 139 138, sm 140 (.call 177 [(.t 135), (.t 136), (.t 139)]), sm 141 (.p (.nilchk (.t 134))), fa 142 0 141, fa 143 2 142, st 43 143 140])
 (.seq (.reg [la 144 71 6, st 71 4 144, sm 5 (.p (.mov (.c zi6)))])
 .ret))))))))))))
def rs161 : List AR := [.cell 4 true 71, .tmp 5]
theorem ok161 : okF Tryz.prog 161 145 ac161 rs161 = true := by kernel_rfl
def ac163 : AC := (.seq (.reg [sm 2 (.p (.mov (.c (.bool false))))])
 (.seq (.reg [mv 3 0, sm 4 (.p (.bin .geq (.t 3) (.c zi6))), mv 5 4, ⟨some 6, .p (.mov (.t 0)), (some (5, true))⟩, ⟨some 7, .p (.bin .lss (.t 6) (.c (.int .i64 4))), (some (5, true))⟩, sm 8 (.p (.pick (.t 5) (.t 7) (.c (.bool false)))), mv 2 8])
 .ret))
def rs163 : List AR := [.tmp 2]
theorem ok163 : okF Tryz.prog 163 9 ac163 rs163 = true := by kernel_rfl
def ac171 : AC := (.seq (.reg [sm 3 (.h (.box (.t 0))), sm 4 (.h (.box (.t 1))), sm 6 (.h (.alloc [(.bool false), zu3, zu3, zu3, zu3, zu3, zu3, zu3, zu3, zu3, zu3, zu3, zu3, zu3, zu3, zu3, zu3, zu3, zu3, zu3, zu3, zu3, zu3, zu3, zu3, zu3, zu3, (.bool false), (.bool false), (.bool false), zi6, zu3, zu3, zu3, zu3, zu3, zu3, zu3, zu3, zu3, zu3, zu3, zu3, zu3, zu3, zu3, zu3, zu3, zu3, zu3, zu3, zu3, zu3, zu3, zu3, zu3, zu3, (.bool false), (.bool false), (.bool false), zi6, zu3, .nils, .nils, (.bool false), (.bool false), zi6, zu3, zi6, zu3, zi6]))])
 (.seq (.seq (.reg [la 8 30 3, mv 9 2, sm 10 (.call 189 [(.t 8), (.t 9)]), sm 11 (.p (.un .not (.t 10)))])
 (.cond (.t 11) (.seq (.reg [la 12 30 3, sm 13 (.v (.build [(.bool false), zu3, zu3, zu3, zu3, zu3, zu3, zu3, zu3, zu3, zu3, zu3, zu3, zu3, zu3, zu3, zu3, zu3, zu3, zu3, zu3, zu3, zu3, zu3, zu3, zu3, zu3, (.bool false), (.bool false), (.bool false), zi6, zu3, zu3, zu3, zu3, zu3, zu3, zu3, zu3, zu3, zu3, zu3, zu3, zu3, zu3, zu3, zu3, zu3, zu3, zu3, zu3, zu3, zu3, zu3, zu3, zu3, zu3, (.bool false), (.bool false), (.bool false), zi6, zu3, .nils, .nils, (.bool false), (.bool false), zi6, zu3, zi6, zu3, zi6] [(1, 30, (.t 12))])), st 71 6 13])
 .ret) .skip))
 (.seq (.reg [la 14 30 3, la 15 1 4, mv 16 2, la 17 30 3, sm 18 (.v (.build [(.bool false), zu3, zu3, zu3, zu3, zu3, zu3, zu3, zu3, zu3, zu3, zu3, zu3, zu3, zu3, zu3, zu3, zu3, zu3, zu3, zu3, zu3, zu3, zu3, zu3, zu3, zu3, (.bool false), (.bool false), (.bool false), zi6, zu3, zu3, zu3, zu3, zu3, zu3, zu3, zu3, zu3, zu3, zu3, zu3, zu3, zu3, zu3, zu3, zu3, zu3, zu3, zu3, zu3, zu3, zu3, zu3, zu3, zu3, (.bool false), (.bool false), (.bool false), zi6, zu3, .nils, .nils, (.bool false), (.bool false), zi6, zu3, zi6, zu3, zi6] [(0, 1, (.c (.bool true))), (31, 30, (.t 17))])), sm 19 (.v (.build [zu3, zu3, zu3, zu3, zu3, zu3, zu3, zu3, zu3, zu3, zu3, zu3, zu3, zu3, zu3, zu3, zu3, zu3, zu3, zu3, zu3, zu3, zu3, zu3, zu3, zu3, (.bool false), (.bool false), (.bool false), zi6, .nils, zu3, (.bool false), zu3, zu3, zu3, zu3, zu3, zu3, zu3, zu3, zu3, zu3, zu3, zu3, zu3, zu3, zu3, zu3, zu3, zu3, zu3, zu3, zu3, zu3, zu3, zu3, zu3, zu3, (.bool false), (.bool false), (.bool false), zi6, zu3, zu3, zu3, zu3, zu3, zu3, zu3, zu3, zu3, zu3, zu3, zu3, zu3, zu3, zu3, zu3, zu3, zu3, zu3, zu3, zu3, zu3, zu3, zu3, zu3, zu3, (.bool false), (.bool false), (.bool false), zi6, zu3, .nils, .nils, (.bool false), (.bool false), zi6, zu3, zi6, zu3, zi6, zi6, zi6, zi6, zi6, zi6] [(0, 30, (.t 14)), (30, 1, (.t 15)), (31, 1, (.t 16)), (32, 71, (.t 18))])), sm 20 (.h (.box (.t 19))), mv 7 20])
 (.seq (.reg [mv 21 7, sm 22 (.p (.nilchk (.t 21))), fa 23 0 22, fa 24 29 23, ld 25 24, sm 26 (.p (.bin .add (.t 25) (.c (.int .i64 1)))), sm 27 (.p (.nilchk (.t 21))), fa 28 0 27, fa 29 29 28, st 1 29 26])
 (.seq (.reg [mv 30 7, sm 31 (.p (.nilchk (.t 30))), fa 32 0 31, fa 33 27 32, ⟨none, .h (.store 1 (.t 33) (.c (.bool false))), none⟩])
 (.seq (.reg [mv 34 7, sm 35 (.call 190 [(.t 34)])])
 (.seq (.reg [mv 36 7, sm 37 (.p (.nilchk (.t 36))), fa 38 32 37, la 39 71 38, st 71 6 39])
 .ret)))))))
def rs171 : List AR := [.cell 6 true 71]
theorem ok171 : okF Tryz.prog 171 40 ac171 rs171 = true := by kernel_rfl
def ac172 : AC := (.seq (.reg [sm 2 (.h (.box (.t 0))), sm 4 (.p (.mov (.c zu3)))])
 (.seq (.reg [fa 5 0 2, la 6 14 5, mv 7 1, sm 8 (.call 191 [(.t 6), (.t 7)]), mv 4 8])
 .ret))
def rs172 : List AR := [.tmp 4]
theorem ok172 : okF Tryz.prog 172 9 ac172 rs172 = true := by kernel_rfl
def ac174 : AC := (.seq (.reg [sm 5 (.h (.box (.t 0))), sm 6 (.h (.box (.t 1))), sm 9 (.h (.box (.t 4))), sm 10 (.h (.alloc [zi6, zu3, zu3, zu3, zu3, zu3, zu3, zu3, zu3, zi6, zi6, zi6, zi6, zi6, zi6, (.bool false), (.bool false), (.bool false), (.bool false), zi6, zi6, zi6, zi6, zi6, zi6, zi6, zi6, (.str .empty), zi6, zu3, zu3, zi6, zi6, .nils, .nils, zu3, zu3, zu3, zu3, zi6, zi6, zi6, zi6])), sm 11 (.h (.alloc [.nils, zu3, .nils, zi6]))])
 (.seq (.reg [la 14 43 5, la 15 1 6, mv 16 2, mv 17 3, la 18 3 9, sm 19 (.v (.build [zi6, zu3, zu3, zu3, zu3, zu3, zu3, zu3, zu3, zi6, zi6, zi6, zi6, zi6, zi6, (.bool false), (.bool false), (.bool false), (.bool false), zi6, zi6, zi6, zi6, zi6, zi6, zi6, zi6, (.str .empty), zi6, zu3, zu3, zi6, zi6, .nils, .nils, zu3, zu3, zu3, zu3, zi6, zi6, zi6, zi6, .nils, zi6, zi6, (.bool false), zi6, zu3] [(0, 43, (.t 14)), (43, 1, (.t 15)), (44, 1, (.t 16)), (45, 1, (.t 17)), (46, 3, (.t 18))])), sm 12 (.h (.alloc [zi6, zu3, zu3, zu3, zu3, zu3, zu3, zu3, zu3, zi6, zi6, zi6, zi6, zi6, zi6, (.bool false), (.bool false), (.bool false), (.bool false), zi6, zi6, zi6, zi6, zi6, zi6, zi6, zi6, (.str .empty), zi6, zu3, zu3, zi6, zi6, .nils, .nils, zu3, zu3, zu3, zu3, zi6, zi6, zi6, zi6, .nils, zi6, zi6, (.bool false), zi6, zu3])), st 49 12 19])
 (.seq (.reg [la 20 49 12, sm 21 (.v (.build [zi6, zu3, zu3, zu3, zu3, zu3, zu3, zu3, zu3, zi6, zi6, zi6, zi6, zi6, zi6, (.bool false), (.bool false), (.bool false), (.bool false), zi6, zi6, zi6, zi6, zi6, zi6, zi6, zi6, (.str .empty), zi6, zu3, zu3, zi6, zi6, .nils, .nils, zu3, zu3, zu3, zu3, zi6, zi6, zi6, zi6, .nils, zi6, zi6, (.bool false), zi6, zu3] [(0, 49, (.t 20))])), sm 22 (.v (.mkI 355 (.t 21))), la 23 49 12, sm 24 (.v (.build [zi6, zu3, zu3, zu3, zu3, zu3, zu3, zu3, zu3, zi6, zi6, zi6, zi6, zi6, zi6, (.bool false), (.bool false), (.bool false), (.bool false), zi6, zi6, zi6, zi6, zi6, zi6, zi6, zi6, (.str .empty), zi6, zu3, zu3, zi6, zi6, .nils, .nils, zu3, zu3, zu3, zu3, zi6, zi6, zi6, zi6, .nils, zi6, zi6, (.bool false), zi6, zu3] [(0, 49, (.t 23))])), sm 25 (.v (.mkI 356 (.t 24))), la 26 49 12, sm 27 (.v (.build [zi6, zu3, zu3, zu3, zu3, zu3, zu3, zu3, zu3, zi6, zi6, zi6, zi6, zi6, zi6, (.bool false), (.bool false), (.bool false), (.bool false), zi6, zi6, zi6, zi6, zi6, zi6, zi6, zi6, (.str .empty), zi6, zu3, zu3, zi6, zi6, .nils, .nils, zu3, zu3, zu3, zu3, zi6, zi6, zi6, zi6, .nils, zi6, zi6, (.bool false), zi6, zu3] [(0, 49, (.t 26))])), sm 28 (.v (.mkI 357 (.t 27))), la 29 49 12, sm 30 (.v (.build [zi6, zu3, zu3, zu3, zu3, zu3, zu3, zu3, zu3, zi6, zi6, zi6, zi6, zi6, zi6, (.bool false), (.bool false), (.bool false), (.bool false), zi6, zi6, zi6, zi6, zi6, zi6, zi6, zi6, (.str .empty), zi6, zu3, zu3, zi6, zi6, .nils, .nils, zu3, zu3, zu3, zu3, zi6, zi6, zi6, zi6, .nils, zi6, zi6, (.bool false), zi6, zu3] [(0, 49, (.t 29))])), sm 31 (.v (.mkI 358 (.t 30))), la 32 49 12, sm 33 (.v (.build [zi6, zu3, zu3, zu3, zu3, zu3, zu3, zu3, zu3, zi6, zi6, zi6, zi6, zi6, zi6, (.bool false), (.bool false), (.bool false), (.bool false), zi6, zi6, zi6, zi6, zi6, zi6, zi6, zi6, (.str .empty), zi6, zu3, zu3, zi6, zi6, .nils, .nils, zu3, zu3, zu3, zu3, zi6, zi6, zi6, zi6, .nils, zi6, zi6, (.bool false), zi6, zu3] [(0, 49, (.t 32))])), sm 34 (.v (.mkI 359 (.t 33))), sm 35 (.v (.build [.nili, .nili, .nili, .nili, .nili] [(0, 1, (.t 22)), (1, 1, (.t 25)), (2, 1, (.t 28)), (3, 1, (.t 31)), (4, 1, (.t 34))])), sm 13 (.h (.alloc [.nili, .nili, .nili, .nili, .nili])), st 5 13 35])
 (.seq (.seq (.reg [fa 36 1 9, ld 37 36, sm 38 (.p (.bin .lss (.t 37) (.c zi6))), mv 39 38, ⟨some 40, .p (.fieldA 1 (.t 9)), (some (39, false))⟩, ⟨some 41, .h (.load false 1 (.t 40)), (some (39, false))⟩, ⟨some 42, .p (.bin .quo (.t 41) (.c (.int .i64 16))), (some (39, false))⟩, ⟨some 43, .p (.bin .geq (.t 42) (.c (.int .i64 5))), (some (39, false))⟩, sm 44 (.p (.pick (.t 39) (.c (.bool true)) (.t 43)))])
 (.cond (.t 44) (.seq (.reg [la 45 49 12, sm 46 (.call 193 [(.t 45), (.c (.int .i64 5))]), sm 47 (.p (.extract 0 (.t 46))), sm 48 (.p (.extract 1 (.t 46))), st 43 10 47, st 4 11 48])
 .ret) .skip))
 (.seq (.reg [fa 49 1 9, ld 50 49, sm 51 (.p (.bin .quo (.t 50) (.c (.int .i64 16)))), sm 52 (.p (.idxA 1 (some 5) (.t 13) (.t 51))), ld 53 52, sm 54 (.calli [(355, 281), (356, 289), (357, 293), (358, 300), (359, 308)] (.t 53) []), sm 55 (.p (.extract 0 (.t 54))), sm 56 (.p (.extract 1 (.t 54))), st 43 10 55, st 4 11 56])
 .ret)))))
def rs174 : List AR := [.cell 10 true 43, .cell 11 true 4]
theorem ok174 : okF Tryz.prog 174 57 ac174 rs174 = true := by kernel_rfl
def ac175 : AC := (.seq (.reg [sm 3 (.h (.box (.t 0))), sm 6 (.h (.alloc [(.bool false), zu3, zu3, zu3, zu3, zu3, zu3, zu3, zu3, zu3, zu3, zu3, zu3, zu3, zu3, zu3, zu3, zu3, zu3, zu3, zu3, zu3, zu3, zu3, zu3, zu3, zu3, (.bool false), (.bool false), (.bool false), zi6, zu3, zu3, zu3, zu3, zu3, zu3, zu3, zu3, zu3, zu3, zu3, zu3, zu3, zu3, zu3, zu3, zu3, zu3, zu3, zu3, zu3, zu3, zu3, zu3, zu3, zu3, (.bool false), (.bool false), (.bool false), zi6, zu3, .nils, .nils, (.bool false), (.bool false), zi6, zu3, zi6, zu3, zi6]))])
 (.seq (.seq (.reg [fa 10 64 3, ld 11 10, sm 12 (.p (.un .not (.t 11)))])
 (.cond (.t 12) (.seq (.reg [la 13 71 3, st 71 6 13])
 .ret) .skip))
 (.seq (.seq (.reg [fa 15 61 3, ld 16 15, sm 17 (.call 194 [(.t 16)]), mv 14 17, sm 18 (.p (.extract 0 (.t 14))), sm 19 (.p (.extract 1 (.t 14))), sm 7 (.h (.alloc [zi6, zi6, zi6, zi6, zi6])), st 5 7 18, mv 8 19])
 (.block 0 (.seq (.reg [mv 21 2, sm 22 (.p (.un .not (.t 21))), mv 20 22])
 (.cond (.t 20) (.seq (.reg [fa 23 61 3, ld 24 23, fa 25 31 3, fa 26 0 25, ld 27 26, sm 28 (.v (.build [zi6, zu3, zu3] [(0, 1, (.c (.int .i64 2))), (1, 1, (.t 24)), (2, 1, (.t 27))])), sm 9 (.h (.alloc [zi6, zu3, zu3])), st 3 9 28])
 (.draw 10 [(3, 7), (1, 7), (2, 7), (5, 9), (7, 9), (1, 9), (2, 9), (3, 9)] [fa 29 31 3, la 30 30 29, la 31 3 9, sm 32 (.call 195 [(.t 30), (.t 31)]), fa 33 0 9, ld 34 33, fa 35 1 3, st 30 35 32, fa 36 70 3, st 1 36 34])) (.seq (.reg [fa 38 65 3, fa 39 0 38, ld 40 39, mv 41 40, ⟨some 42, .p (.fieldA 1 (.t 7)), (some (41, true))⟩, ⟨some 43, .h (.load false 1 (.t 42)), (some (41, true))⟩, ⟨some 44, .p (.bin .neq (.t 43) (.c zi6)), (some (41, true))⟩, sm 45 (.p (.pick (.t 41) (.t 44) (.c (.bool false)))), mv 37 45])
 (.cond (.t 37) (.reg [fa 46 1 7, ld 47 46, mv 48 1, fa 49 1 3, fa 50 1 49, sm 51 (.p (.idxA 1 (some 16) (.t 50) (.t 47))), st 1 51 48]) .skip))))))
 (.seq (.reg [sm 52 (.v (.build [(.bool false), zi6, zu3] [])), fa 53 64 3, ⟨none, .h (.store 1 (.t 53) (.c (.bool false))), none⟩, fa 54 65 3, st 3 54 52])
 (.seq (.reg [la 55 71 3, st 71 6 55])
 .ret)))))
def rs175 : List AR := [.cell 6 true 71]
theorem ok175 : okF Tryz.prog 175 56 ac175 rs175 = true := by kernel_rfl
def ac176 : AC := (.seq (.draw 23 [(5, 22), (10, 22), (16, 22)] [mv 6 0, mv 7 0, sm 8 (.p (.nilchk (.t 7))), fa 9 0 8, fa 10 45 9, ld 11 10, mv 12 0, sm 13 (.p (.nilchk (.t 12))), fa 14 0 13, fa 15 45 14, ld 16 15, sm 17 (.p (.len false (.t 16))), mv 18 0, sm 19 (.p (.nilchk (.t 18))), fa 20 0 19, fa 21 45 20, ld 22 21, sm 23 (.p (.len false (.t 22))), sm 24 (.v (.sub 5 (.t 11) none (some (.t 17)) (some (.t 23)))), sm 25 (.p (.nilchk (.t 6))), fa 26 0 25, fa 27 45 26, st 1 27 24])
 (.seq (.reg [mv 28 1, sm 29 (.p (.len false (.t 28))), sm 30 (.p (.mov (.c zi6)))])
 (.block 0 (.loop (.seq (.reg [sm 31 (.p (.bin .lss (.t 30) (.t 29)))])
 (.seq (.cond (.t 31) .skip (.exit 0))
 (.seq (.block 1 (.seq (.reg [sm 32 (.p (.idxA 5 none (.t 28) (.t 30))), la 33 5 32, sm 5 (.h (.alloc [zi6, zi6, zi6, zi6, (.str .empty)])), st 5 5 33])
 (.seq (.reg [mv 34 0, sm 35 (.p (.nilchk (.t 34))), fa 36 0 35, fa 37 46 36, ld 38 37, fa 39 0 5, st 1 39 38])
 (.seq (.draw 13 [(6, 7), (5, 8), (7, 8), (6, 8), (8, 12), (5, 12), (6, 12), (7, 12)] [mv 40 0, mv 41 0, sm 42 (.p (.nilchk (.t 41))), fa 43 0 42, fa 44 45 43, ld 45 44, la 46 5 5, sm 47 (.d (.bslice 5 1 [zi6, zi6, zi6, zi6, (.str .empty)] [(0, (.t 46))])), sm 48 (.l (.append 5 48 (.t 45) (.t 47))), sm 49 (.p (.nilchk (.t 40))), fa 50 0 49, fa 51 45 50, st 1 51 48])
 (.reg [mv 52 0, sm 53 (.p (.nilchk (.t 52))), fa 54 0 53, fa 55 46 54, ld 56 55, sm 57 (.p (.bin .add (.t 56) (.c (.int .i64 1)))), sm 58 (.p (.nilchk (.t 52))), fa 59 0 58, fa 60 46 59, st 1 60 57])))))
 (.reg [sm 61 (.p (.bin .add (.t 30) (.c (.int .i64 1)))), mv 30 61]))))))))
def rs176 : List AR := []
theorem ok176 : okF Tryz.prog 176 62 ac176 rs176 = true := by kernel_rfl
def ac177 : AC := (.seq (.reg [sm 3 (.h (.box (.t 0))), sm 6 (.h (.alloc [zi6, zu3, zu3, zu3, zu3, zu3, zu3, zu3, zu3, zi6, zi6, zi6, zi6, zi6, zi6, (.bool false), (.bool false), (.bool false), (.bool false), zi6, zi6, zi6, zi6, zi6, zi6, zi6, zi6, (.str .empty), zi6, zu3, zu3, zi6, zi6, .nils, .nils, zu3, zu3, zu3, zu3, zi6, zi6, zi6, zi6]))])
 (.seq (.reg [fa 10 14 3, la 11 13 10, mv 12 1, mv 13 2, sm 14 (.call 196 [(.t 11), (.t 12), (.t 13)]), mv 9 14, sm 15 (.p (.extract 0 (.t 9))), sm 16 (.p (.extract 1 (.t 9))), sm 7 (.h (.alloc [zi6, (.bool false), (.bool false), (.bool false), (.bool false), zi6, zi6, zi6, zi6, zi6, zi6, zi6, zi6])), st 13 7 15, mv 8 16])
 (.seq (.reg [la 17 13 7, fa 18 14 3, st 13 18 17])
 (.seq (.seq (.reg [mv 19 8])
 (.cond (.t 19) (.reg [fa 20 0 3, la 21 14 20, mv 22 1, sm 23 (.call 164 [(.t 21), (.c zi6), (.t 22)]), fa 24 0 3, st 14 24 23]) .skip))
 (.seq (.reg [la 25 43 3, st 43 6 25])
 .ret)))))
def rs177 : List AR := [.cell 6 true 43]
theorem ok177 : okF Tryz.prog 177 26 ac177 rs177 = true := by kernel_rfl
def ac189 : AC := (.seq (.reg [sm 2 (.h (.box (.t 0))), sm 4 (.p (.mov (.c (.bool false))))])
 (.seq (.reg [fa 5 28 2, ld 6 5, sm 7 (.p (.un .not (.t 6))), mv 8 7, ⟨some 9, .p (.fieldA 27 (.t 2)), (some (8, true))⟩, ⟨some 10, .h (.load false 1 (.t 9)), (some (8, true))⟩, ⟨some 11, .p (.un .not (.t 10)), (some (8, true))⟩, ⟨some 12, .p (.mov (.t 11)), (some (8, true))⟩, ⟨some 13, .p (.mov (.t 1)), (some (12, false))⟩, ⟨some 14, .call 204 [(.t 13)], (some (12, false))⟩, ⟨some 15, .p (.binw .neq (.t 14) (.c zu3)), (some (12, false))⟩, ⟨some 16, .p (.pick (.t 12) (.c (.bool true)) (.t 15)), (some (8, true))⟩, sm 17 (.p (.pick (.t 8) (.t 16) (.c (.bool false)))), mv 4 17])
 .ret))
def rs189 : List AR := [.tmp 4]
theorem ok189 : okF Tryz.prog 189 18 ac189 rs189 = true := by kernel_rfl
def acA190 : AC := (.reg [sm 1 (.h (.box (.t 0)))])
def qs190 : List AO := [sm 8 (.p (.mkfn 205 [(.t 1)]))]
def acB190 : AC := (.seq (.seq (.draw 15 [] [ld 10 1, sm 11 (.p (.nilchk (.t 10))), fa 12 32 11, fa 13 31 12, la 14 30 13, ld 15 1, sm 16 (.p (.nilchk (.t 15))), fa 17 31 16, ld 18 17, sm 19 (.call 206 [(.t 14), (.t 18)]), mv 9 19, sm 20 (.p (.extract 0 (.t 9))), sm 21 (.p (.extract 1 (.t 9))), mv 2 20, mv 3 21])
 (.seq (.reg [mv 22 3])
 (.cond (.t 22) (.reg [ld 23 1, mv 24 2, sm 25 (.p (.bin .add (.c (.int .i64 16)) (.t 24))), sm 26 (.callx 207 [(.t 23), (.t 25), (.c zu3)])]) .skip)))
 (.seq (.reg [ld 27 1, sm 28 (.callx 208 [(.t 27)])])
 (.seq (.reg [ld 29 1, sm 30 (.p (.nilchk (.t 29))), fa 31 0 30, fa 32 0 31, ld 33 32, sm 34 (.p (.binw .add (.t 33) (.c (.int .u32 4)))), sm 35 (.p (.nilchk (.t 29))), fa 36 0 35, fa 37 0 36, st 1 37 34])
 (.seq (.reg [ld 39 1, sm 40 (.p (.nilchk (.t 39))), fa 41 103 40, fa 42 0 41, ld 43 42, sm 44 (.call 209 [(.t 43)]), mv 38 44, sm 45 (.p (.extract 0 (.t 38))), sm 46 (.p (.extract 1 (.t 38))), mv 4 45, mv 5 46])
 (.seq (.reg [mv 47 4, sm 48 (.p (.bin .neq (.t 47) (.c zi6)))])
 (.cond (.t 48) (.reg [ld 49 1, mv 50 4, mv 51 5, sm 52 (.callx 210 [(.t 49), (.t 50), (.t 51)])]) (.seq (.act 0 [3, 1, 1, 1, 1, 1, 2, 2, 2, 2, 2, 2] [sm 54 (.call 211 []), ld 55 1, sm 56 (.p (.nilchk (.t 55))), fa 57 103 56, fa 58 0 57, ld 59 58, sm 60 (.m (.get true (.c (.i .i64)) .nilf (.t 54) (.t 59))), mv 53 60, sm 61 (.p (.extract 0 (.t 53))), sm 62 (.p (.extract 1 (.t 53))), mv 6 61, mv 7 62])
 (.seq (.reg [mv 63 7])
 (.cond (.t 63) (.reg [mv 64 6, ld 65 1, sm 66 (.callvx (.t 64) [(.t 65)])]) (.reg [ld 67 1, sm 68 (.callx 212 [(.t 67)])]))))))))))
def rs190 : List AR := []
theorem ok190 : okFX Tryz.prog 190 69 acA190 qs190 8 acB190 rs190 = true := by kernel_rfl
def ac191 : AC := (.seq (.reg [sm 2 (.h (.box (.t 0))), sm 4 (.p (.mov (.c zu3)))])
 (.seq (.draw 10 [] [mv 5 1, fa 6 1 2, sm 7 (.p (.idxA 1 (some 4) (.t 6) (.t 5))), ld 8 7, mv 9 1, fa 10 5 2, sm 11 (.p (.idxA 1 (some 4) (.t 10) (.t 9))), ld 12 11, sm 13 (.p (.binw .and (.t 8) (.t 12))), mv 4 13])
 .ret))
def rs191 : List AR := [.tmp 4]
theorem ok191 : okF Tryz.prog 191 14 ac191 rs191 = true := by kernel_rfl
end Go.Proofs

set_option maxRecDepth 100000
namespace Go.Proofs
open Go Go.Eng
def ac194 : AC := (.seq (.reg [sm 1 (.h (.box (.t 0))), sm 2 (.h (.alloc [zi6, zi6, zi6, zi6, zi6])), sm 3 (.p (.mov (.c (.bool false))))])
 (.seq (.reg [sm 6 (.p (.mkfn 214 [(.t 1)])), mv 4 6])
 (.seq (.reg [mv 7 4, sm 8 (.callv (.t 7) [(.c (.int .i64 26)), (.c (.int .i64 6))]), mv 9 4, sm 10 (.callv (.t 9) [(.c (.int .i64 22)), (.c (.int .i64 4))]), mv 11 4, sm 12 (.callv (.t 11) [(.c (.int .i64 18)), (.c (.int .i64 4))]), sm 13 (.v (.build [zi6, zi6, zi6, zi6, zi6] [(0, 1, (.t 8)), (1, 1, (.t 10)), (2, 1, (.t 12))])), sm 5 (.h (.alloc [zi6, zi6, zi6, zi6, zi6])), st 5 5 13])
 (.seq (.seq (.reg [fa 14 0 5, ld 15 14, sm 16 (.call 215 [(.t 15)]), sm 17 (.p (.bin .eql (.t 16) (.c (.int .i64 1))))])
 (.cond (.t 17) (.seq (.reg [mv 18 4, sm 19 (.callv (.t 18) [(.c (.int .i64 14)), (.c (.int .i64 4))]), fa 20 3 5, st 1 20 19])
 (.seq (.reg [mv 21 4, sm 22 (.callv (.t 21) [(.c zi6), (.c (.int .i64 14))]), sm 23 (.p (.bin .neq (.t 22) (.c zi6)))])
 (.cond (.t 23) (.seq (.reg [sm 24 (.v (.build [zi6, zi6, zi6, zi6, zi6] [])), st 5 2 24, sm 3 (.p (.mov (.c (.bool false))))])
 .ret) .skip))) (.reg [mv 25 4, sm 26 (.callv (.t 25) [(.c zi6), (.c (.int .i64 18))]), sm 27 (.p (.binw .shl (.t 26) (.c (.int .u64 46)))), sm 28 (.p (.binw .shr (.t 27) (.c (.int .u64 46)))), fa 29 4 5, st 1 29 28])))
 (.seq (.seq (.reg [la 30 5 5, sm 31 (.call 216 [(.t 30)]), sm 32 (.p (.un .not (.t 31)))])
 (.cond (.t 32) (.seq (.reg [sm 33 (.v (.build [zi6, zi6, zi6, zi6, zi6] [])), st 5 2 33, sm 3 (.p (.mov (.c (.bool false))))])
 .ret) .skip))
 (.seq (.reg [la 34 5 5, st 5 2 34, sm 3 (.p (.mov (.c (.bool true))))])
 .ret))))))
def rs194 : List AR := [.cell 2 true 5, .tmp 3]
theorem ok194 : okF Tryz.prog 194 35 ac194 rs194 = true := by kernel_rfl
def ac196 : AC := (.seq (.reg [sm 3 (.h (.box (.t 0))), sm 6 (.h (.alloc [zi6, (.bool false), (.bool false), (.bool false), (.bool false), zi6, zi6, zi6, zi6, zi6, zi6, zi6, zi6])), sm 7 (.p (.mov (.c (.bool false))))])
 (.seq (.seq (.reg [la 9 13 3, mv 10 1, sm 11 (.call 218 [(.t 9), (.t 10)]), mv 8 11])
 (.seq (.reg [mv 12 8, sm 13 (.p (.bin .eql (.t 12) (.c zi6))), mv 14 13, ⟨some 15, .p (.mov (.t 2)), (some (14, false))⟩, ⟨some 16, .p (.mov (.t 8)), (some (14, false))⟩, ⟨some 17, .p (.bin .lss (.t 15) (.t 16)), (some (14, false))⟩, sm 18 (.p (.pick (.t 14) (.c (.bool true)) (.t 17)))])
 (.cond (.t 18) (.seq (.reg [la 19 13 3, st 13 6 19, sm 7 (.p (.mov (.c (.bool false))))])
 .ret) .skip)))
 (.seq (.reg [mv 20 1, fa 21 9 3, sm 22 (.p (.idxA 1 (some 4) (.t 21) (.t 20))), ⟨none, .h (.store 1 (.t 22) (.c zi6)), none⟩])
 (.seq (.reg [la 23 13 3, st 13 6 23, sm 7 (.p (.mov (.c (.bool true))))])
 .ret))))
def rs196 : List AR := [.cell 6 true 13, .tmp 7]
theorem ok196 : okF Tryz.prog 196 24 ac196 rs196 = true := by kernel_rfl
def ac200 : AC := (.seq (.reg [sm 1 (.h (.box (.t 0))), sm 2 (.p (.mov (.c zi6)))])
 (.seq (.reg [fa 3 4 1, ld 4 3, sm 5 (.p (.binw .shr (.t 4) (.c (.int .u64 8)))), sm 6 (.p (.binw .and (.t 5) (.c (.int .u32 255)))), sm 7 (.p (.conv .i64 (.t 6))), mv 2 7])
 .ret))
def rs200 : List AR := [.tmp 2]
theorem ok200 : okF Tryz.prog 200 8 ac200 rs200 = true := by kernel_rfl
def ac205 : AC := (.block 0 (.seq (.reg [sm 6 (.v (.isni false (.t 4)))])
 (.cond (.t 6) (.seq (.reg [mv 1 4])
 (.draw 9 [(4, 8), (0, 8), (1, 8)] [ld 7 0, ld 8 0, sm 9 (.p (.nilchk (.t 8))), fa 10 0 9, la 11 30 10, sm 12 (.p (.nilchk (.t 7))), fa 13 32 12, fa 14 1 13, st 30 14 11])) (.seq (.reg [sm 15 (.v (.tas 368 (.agg [zi6, zu3, zu3]) (.t 4))), sm 16 (.p (.extract 1 (.t 15))), sm 17 (.p (.extract 0 (.t 15)))])
 (.cond (.t 16) (.seq (.reg [sm 2 (.h (.alloc [zi6, zu3, zu3])), st 3 2 17])
 (.draw 19 [(8, 14), (0, 14), (1, 14), (2, 14), (6, 14), (7, 14), (10, 18), (14, 18), (0, 18), (1, 18), (2, 18), (6, 18), (7, 18), (8, 18)] [ld 18 0, ld 19 0, ld 20 0, sm 21 (.p (.nilchk (.t 20))), fa 22 32 21, fa 23 31 22, la 24 30 23, la 25 3 2, sm 26 (.call 195 [(.t 24), (.t 25)]), fa 27 0 2, ld 28 27, sm 29 (.p (.nilchk (.t 18))), fa 30 32 29, fa 31 1 30, st 30 31 26, sm 32 (.p (.nilchk (.t 19))), fa 33 32 32, fa 34 70 33, st 1 34 28])) (.seq (.reg [mv 3 4])
 (.reg [mv 5 3, ⟨none, .pan (.t 5), none⟩])))))))
theorem ok205 : okFD Tryz.prog 205 35 4 ac205 = true := by kernel_rfl
def ac206 : AC := (.seq (.reg [sm 2 (.h (.box (.t 0))), sm 4 (.p (.mov (.c zi6))), sm 5 (.p (.mov (.c (.bool false))))])
 (.seq (.seq (.reg [fa 7 17 2, sm 8 (.p (.idxA 1 (some 9) (.t 7) (.c (.int .i64 5)))), ld 9 8, sm 10 (.p (.binw .and (.t 9) (.c (.int .u32 1)))), sm 11 (.p (.binw .eql (.t 10) (.c zu3)))])
 (.cond (.t 11) (.seq (.reg [sm 4 (.p (.mov (.c zi6))), sm 5 (.p (.mov (.c (.bool false))))])
 .ret) .skip))
 (.seq (.seq (.reg [sm 12 (.p (.mov (.c zi6)))])
 (.block 0 (.loop (.seq (.reg [sm 13 (.p (.bin .lss (.t 12) (.c (.int .i64 5))))])
 (.seq (.cond (.t 13) .skip (.exit 0))
 (.seq (.block 1 (.seq (.reg [mv 14 12, mv 6 14])
 (.seq (.reg [mv 15 1, mv 16 6, sm 17 (.p (.binw .shr (.t 15) (.t 16))), sm 18 (.p (.binw .and (.t 17) (.c (.int .u32 1)))), sm 19 (.p (.binw .eql (.t 18) (.c (.int .u32 1))))])
 (.cond (.t 19) (.seq (.reg [mv 20 6, mv 4 20, sm 5 (.p (.mov (.c (.bool true))))])
 .ret) .skip))))
 (.reg [sm 21 (.p (.bin .add (.t 12) (.c (.int .i64 1)))), mv 12 21])))))))
 (.seq (.reg [sm 4 (.p (.mov (.c zi6))), sm 5 (.p (.mov (.c (.bool false))))])
 .ret))))
def rs206 : List AR := [.tmp 4, .tmp 5]
theorem ok206 : okF Tryz.prog 206 22 ac206 rs206 = true := by kernel_rfl
def ac208 : AC := (.seq (.reg [mv 5 0, sm 6 (.p (.nilchk (.t 5))), fa 7 32 6, fa 8 31 7, fa 9 0 8, ld 10 9, mv 2 10])
 (.seq (.seq (.reg [mv 11 2, sm 12 (.p (.binw .rem (.t 11) (.c (.int .u32 4)))), sm 13 (.p (.binw .neq (.t 12) (.c zu3)))])
 (.cond (.t 13) (.reg [mv 14 0, mv 15 2, sm 16 (.callx 207 [(.t 14), (.c (.int .i64 3)), (.t 15)])]) .skip))
 (.seq (.reg [mv 17 0, mv 18 0, mv 19 0, mv 20 2, sm 21 (.callx 222 [(.t 19), (.t 20), (.c (.int .i64 4))]), sm 22 (.call 221 [(.t 18), (.t 21), (.c (.int .i64 4))]), sm 23 (.p (.nilchk (.t 17))), fa 24 32 23, fa 25 61 24, st 1 25 22])
 (.seq (.reg [mv 27 0, sm 28 (.p (.nilchk (.t 27))), fa 29 32 28, fa 30 61 29, ld 31 30, sm 32 (.call 194 [(.t 31)]), mv 26 32, sm 33 (.p (.extract 0 (.t 26))), sm 34 (.p (.extract 1 (.t 26))), sm 3 (.h (.alloc [zi6, zi6, zi6, zi6, zi6])), st 5 3 33, mv 4 34])
 (.seq (.seq (.reg [mv 35 4, sm 36 (.p (.un .not (.t 35))), mv 37 36, ⟨some 38, .p (.mov (.t 0)), (some (37, false))⟩, ⟨some 39, .p (.nilchk (.t 38)), (some (37, false))⟩, ⟨some 40, .p (.fieldA 0 (.t 39)), (some (37, false))⟩, ⟨some 41, .p (.fieldA 26 (.t 40)), (some (37, false))⟩, ⟨some 42, .h (.load false 1 (.t 41)), (some (37, false))⟩, ⟨some 43, .p (.mov (.t 42)), (some (37, false))⟩, ⟨some 44, .p (.fieldA 0 (.t 3)), (some (43, true))⟩, ⟨some 45, .h (.load false 1 (.t 44)), (some (43, true))⟩, ⟨some 46, .call 223 [(.t 45)], (some (43, true))⟩, ⟨some 47, .p (.pick (.t 43) (.t 46) (.c (.bool false))), (some (37, false))⟩, sm 48 (.p (.pick (.t 37) (.c (.bool true)) (.t 47)))])
 (.cond (.t 48) (.reg [mv 49 0, mv 50 0, sm 51 (.p (.nilchk (.t 50))), fa 52 32 51, fa 53 61 52, ld 54 53, sm 55 (.callx 207 [(.t 49), (.c (.int .i64 2)), (.t 54)])]) .skip))
 (.reg [mv 56 0, la 57 5 3, sm 58 (.p (.nilchk (.t 56))), fa 59 103 58, st 5 59 57]))))))
def rs208 : List AR := []
theorem ok208 : okF Tryz.prog 208 60 ac208 rs208 = true := by kernel_rfl
def ac209 : AC := (.seq (.reg [sm 2 (.p (.mov (.c zi6))), sm 3 (.p (.mov (.c zi6)))])
 (.seq (.seq (.reg [mv 4 0])
 (.block 0 (.seq (.reg [sm 6 (.p (.bin .eql (.t 4) (.c (.int .i64 20)))), mv 5 6])
 (.cond (.t 5) (.seq (.reg [sm 2 (.p (.mov (.c (.int .i64 1)))), sm 3 (.p (.mov (.c (.int .i64 4))))])
 .ret) (.seq (.reg [sm 8 (.p (.bin .eql (.t 4) (.c (.int .i64 22)))), mv 7 8])
 (.cond (.t 7) (.seq (.reg [sm 2 (.p (.mov (.c (.int .i64 1)))), sm 3 (.p (.mov (.c (.int .i64 1))))])
 .ret) (.seq (.reg [sm 10 (.p (.bin .eql (.t 4) (.c (.int .i64 21)))), mv 9 10])
 (.cond (.t 9) (.seq (.reg [sm 2 (.p (.mov (.c (.int .i64 2)))), sm 3 (.p (.mov (.c (.int .i64 4))))])
 .ret) (.seq (.reg [sm 12 (.p (.bin .eql (.t 4) (.c (.int .i64 23)))), mv 11 12])
 (.cond (.t 11) (.seq (.reg [sm 2 (.p (.mov (.c (.int .i64 2)))), sm 3 (.p (.mov (.c (.int .i64 1))))])
 .ret) (.seq (.reg [sm 14 (.p (.bin .eql (.t 4) (.c (.int .i64 24)))), mv 13 14])
 (.cond (.t 13) (.seq (.reg [sm 2 (.p (.mov (.c (.int .i64 3)))), sm 3 (.p (.mov (.c (.int .i64 4))))])
 .ret) .skip))))))))))))
 (.seq (.reg [sm 2 (.p (.mov (.c zi6))), sm 3 (.p (.mov (.c zi6)))])
 .ret)))
def rs209 : List AR := [.tmp 2, .tmp 3]
theorem ok209 : okF Tryz.prog 209 15 ac209 rs209 = true := by kernel_rfl
def ac211 : AC := (.seq (.reg [sm 0 (.p (.mov (.c .nilm)))])
 (.seq (.reg [sm 1 (.m .mk), ⟨none, .m (.set (.c (.i .i64)) (.t 1) (.c (.int .i64 28)) (.c (.func 226 []))), none⟩, ⟨none, .m (.set (.c (.i .i64)) (.t 1) (.c (.int .i64 29)) (.c (.func 226 []))), none⟩, ⟨none, .m (.set (.c (.i .i64)) (.t 1) (.c (.int .i64 30)) (.c (.func 226 []))), none⟩, ⟨none, .m (.set (.c (.i .i64)) (.t 1) (.c (.int .i64 31)) (.c (.func 226 []))), none⟩, ⟨none, .m (.set (.c (.i .i64)) (.t 1) (.c (.int .i64 32)) (.c (.func 227 []))), none⟩, ⟨none, .m (.set (.c (.i .i64)) (.t 1) (.c (.int .i64 33)) (.c (.func 227 []))), none⟩, ⟨none, .m (.set (.c (.i .i64)) (.t 1) (.c (.int .i64 42)) (.c (.func 228 []))), none⟩, ⟨none, .m (.set (.c (.i .i64)) (.t 1) (.c (.int .i64 43)) (.c (.func 228 []))), none⟩, ⟨none, .m (.set (.c (.i .i64)) (.t 1) (.c (.int .i64 44)) (.c (.func 229 []))), none⟩, ⟨none, .m (.set (.c (.i .i64)) (.t 1) (.c (.int .i64 46)) (.c (.func 230 []))), none⟩, ⟨none, .m (.set (.c (.i .i64)) (.t 1) (.c (.int .i64 47)) (.c (.func 230 []))), none⟩, mv 2 1, mv 0 2])
 .ret))
def rs211 : List AR := [.tmp 0]
theorem ok211 : okF Tryz.prog 211 3 ac211 rs211 = true := by kernel_rfl
def ac212 : AC := (.seq (.reg [mv 4 0, sm 5 (.p (.nilchk (.t 4))), fa 6 103 5, fa 7 0 6, ld 8 7])
 (.block 0 (.seq (.reg [sm 44 (.p (.bin .eql (.t 8) (.c (.int .i64 16)))), mv 43 44])
 (.cond (.t 43) (.draw 19 [] [mv 45 0, mv 46 0, mv 47 0, sm 48 (.p (.nilchk (.t 47))), fa 49 103 48, fa 50 2 49, ld 51 50, sm 52 (.p (.nilchk (.t 46))), fa 53 0 52, fa 54 1 53, sm 55 (.p (.idxA 1 (some 16) (.t 54) (.t 51))), ld 56 55, mv 57 0, sm 58 (.p (.nilchk (.t 57))), fa 59 103 58, fa 60 4 59, ld 61 60, sm 62 (.p (.convw .u32 (.t 61))), sm 63 (.p (.binw .add (.t 56) (.t 62))), sm 64 (.call 224 [(.t 45), (.t 63)])]) (.seq (.reg [sm 66 (.p (.bin .eql (.t 8) (.c (.int .i64 17)))), mv 65 66])
 (.cond (.t 65) (.reg [mv 67 0, mv 68 0, sm 69 (.p (.nilchk (.t 68))), fa 70 103 69, fa 71 4 70, ld 72 71, sm 73 (.p (.convw .u32 (.t 72))), sm 74 (.p (.binw .shl (.t 73) (.c (.int .u64 14)))), sm 75 (.call 224 [(.t 67), (.t 74)])]) (.seq (.reg [sm 77 (.p (.bin .eql (.t 8) (.c (.int .i64 40)))), mv 76 77])
 (.cond (.t 76) (.reg [mv 78 0, sm 79 (.p (.nilchk (.t 78))), fa 80 32 79, fa 81 31 80, fa 82 0 81, ld 83 82, sm 84 (.p (.binw .add (.t 83) (.c (.int .u32 4)))), sm 85 (.v (.build [zi6, zu3, zu3] [(0, 1, (.c (.int .i64 1))), (1, 1, (.c zu3)), (2, 1, (.t 84))])), sm 86 (.v (.mkI 368 (.t 85))), ⟨none, .pan (.t 86), none⟩]) (.seq (.reg [sm 88 (.p (.bin .eql (.t 8) (.c (.int .i64 41)))), mv 87 88])
 (.cond (.t 87) (.reg [mv 89 0, mv 90 0, sm 91 (.p (.nilchk (.t 90))), fa 92 0 91, la 93 30 92, sm 94 (.call 231 [(.t 93)]), sm 95 (.p (.nilchk (.t 89))), fa 96 0 95, st 30 96 94]) (.seq (.reg [sm 98 (.p (.bin .eql (.t 8) (.c (.int .i64 45)))), mv 97 98])
 (.cond (.t 97) (.reg [mv 99 0, sm 100 (.p (.nilchk (.t 99))), fa 101 0 100, fa 102 27 101, ⟨none, .h (.store 1 (.t 102) (.c (.bool true))), none⟩]) (.seq (.reg [sm 104 (.p (.bin .eql (.t 8) (.c (.int .i64 48)))), mv 103 104])
 (.cond (.t 103) (.reg [mv 105 0, sm 106 (.p (.nilchk (.t 105))), fa 107 0 106, fa 108 28 107, ⟨none, .h (.store 1 (.t 108) (.c (.bool true))), none⟩]) (.seq (.draw 33 [] [mv 10 0, sm 11 (.p (.nilchk (.t 10))), fa 12 103 11, fa 13 0 12, ld 14 13, mv 15 0, mv 16 0, sm 17 (.p (.nilchk (.t 16))), fa 18 103 17, fa 19 2 18, ld 20 19, sm 21 (.p (.nilchk (.t 15))), fa 22 0 21, fa 23 1 22, sm 24 (.p (.idxA 1 (some 16) (.t 23) (.t 20))), ld 25 24, mv 26 0, mv 27 0, sm 28 (.p (.nilchk (.t 27))), fa 29 103 28, fa 30 3 29, ld 31 30, sm 32 (.p (.nilchk (.t 26))), fa 33 0 32, fa 34 1 33, sm 35 (.p (.idxA 1 (some 16) (.t 34) (.t 31))), ld 36 35, sm 37 (.call 232 [(.t 14), (.t 25), (.t 36)]), mv 9 37, sm 38 (.p (.extract 0 (.t 9))), sm 39 (.p (.extract 1 (.t 9))), mv 2 38, mv 3 39])
 (.reg [mv 40 0, mv 41 2, sm 42 (.call 224 [(.t 40), (.t 41)])]))))))))))))))))
def rs212 : List AR := []
theorem ok212 : okF Tryz.prog 212 109 ac212 rs212 = true := by kernel_rfl
def ac213 : AC := (.seq (.reg [sm 3 (.h (.box (.t 0))), sm 6 (.p (.mov (.c (.bool false))))])
 (.seq (.reg [mv 7 2, sm 8 (.p (.bin .eql (.t 7) (.c (.int .i64 1)))), mv 9 8, ⟨some 10, .p (.mov (.t 2)), (some (9, false))⟩, ⟨some 11, .p (.bin .eql (.t 10) (.c (.int .i64 4))), (some (9, false))⟩, sm 12 (.p (.pick (.t 9) (.c (.bool true)) (.t 11))), mv 13 12, ⟨some 14, .p (.mov (.t 1)), (some (13, true))⟩, ⟨some 15, .p (.bin .geq (.t 14) (.c zi6)), (some (13, true))⟩, sm 16 (.p (.pick (.t 13) (.t 15) (.c (.bool false)))), mv 17 16, ⟨some 18, .p (.mov (.t 1)), (some (17, true))⟩, ⟨some 19, .p (.mov (.t 2)), (some (17, true))⟩, ⟨some 20, .p (.bin .rem (.t 18) (.t 19)), (some (17, true))⟩, ⟨some 21, .p (.bin .eql (.t 20) (.c zi6)), (some (17, true))⟩, sm 22 (.p (.pick (.t 17) (.t 21) (.c (.bool false)))), mv 23 22, ⟨some 24, .p (.mov (.t 1)), (some (23, true))⟩, ⟨some 25, .h (.load true 1 (.t 3)), (some (23, true))⟩, ⟨some 26, .call 132 [(.t 25)], (some (23, true))⟩, ⟨some 27, .p (.mov (.t 2)), (some (23, true))⟩, ⟨some 28, .p (.bin .sub (.t 26) (.t 27)), (some (23, true))⟩, ⟨some 29, .p (.bin .leq (.t 24) (.t 28)), (some (23, true))⟩, sm 30 (.p (.pick (.t 23) (.t 29) (.c (.bool false)))), mv 6 30])
 .ret))
def rs213 : List AR := [.tmp 6]
theorem ok213 : okF Tryz.prog 213 31 ac213 rs213 = true := by kernel_rfl
def ac214 : AC := (.seq (.reg [sm 5 (.p (.mov (.c zi6)))])
 (.seq (.draw 9 [] [ld 6 2, mv 7 0, sm 8 (.p (.binw .shr (.t 6) (.t 7))), mv 9 1, sm 10 (.p (.binw .shl (.c (.int .u32 1)) (.t 9))), sm 11 (.p (.binw .sub (.t 10) (.c (.int .u32 1)))), sm 12 (.p (.binw .and (.t 8) (.t 11))), sm 13 (.p (.conv .i64 (.t 12))), mv 5 13])
 .ret))
def rs214 : List AR := [.tmp 5]
theorem ok214 : okF Tryz.prog 214 14 ac214 rs214 = true := by kernel_rfl
def ac215 : AC := (.seq (.reg [sm 2 (.p (.mov (.c zi6)))])
 (.seq (.seq (.reg [sm 4 (.call 233 []), sm 3 (.h (.alloc [(.str .empty), zi6, (.str .empty), zi6, (.str .empty), zi6, (.str .empty), zi6, (.str .empty), zi6, (.str .empty), zi6, (.str .empty), zi6, (.str .empty), zi6, (.str .empty), zi6, (.str .empty), zi6, (.str .empty), zi6, (.str .empty), zi6, (.str .empty), zi6, (.str .empty), zi6, (.str .empty), zi6, (.str .empty), zi6, (.str .empty), zi6, (.str .empty), zi6, (.str .empty), zi6, (.str .empty), zi6, (.str .empty), zi6, (.str .empty), zi6, (.str .empty), zi6, (.str .empty), zi6, (.str .empty), zi6, (.str .empty), zi6, (.str .empty), zi6, (.str .empty), zi6, (.str .empty), zi6, (.str .empty), zi6, (.str .empty), zi6, (.str .empty), zi6, (.str .empty), zi6, (.str .empty), zi6, (.str .empty), zi6, (.str .empty), zi6, (.str .empty), zi6, (.str .empty), zi6, (.str .empty), zi6, (.str .empty), zi6, (.str .empty), zi6, (.str .empty), zi6, (.str .empty), zi6, (.str .empty), zi6, (.str .empty), zi6, (.str .empty), zi6, (.str .empty), zi6, (.str .empty), zi6, (.str .empty), zi6])), st 98 3 4])
 (.seq (.reg [mv 5 0, sm 6 (.p (.bin .geq (.t 5) (.c zi6))), mv 7 6, ⟨some 8, .p (.mov (.t 0)), (some (7, true))⟩, ⟨some 9, .p (.bin .lss (.t 8) (.c (.int .i64 49))), (some (7, true))⟩, sm 10 (.p (.pick (.t 7) (.t 9) (.c (.bool false))))])
 (.cond (.t 10) (.seq (.reg [mv 11 0, sm 12 (.p (.idxA 2 (some 49) (.t 3) (.t 11))), fa 13 1 12, ld 14 13, mv 2 14])
 .ret) .skip)))
 (.seq (.reg [sm 2 (.p (.mov (.c zi6)))])
 .ret)))
def rs215 : List AR := [.tmp 2]
theorem ok215 : okF Tryz.prog 215 15 ac215 rs215 = true := by kernel_rfl
def ac216 : AC := (.seq (.reg [sm 1 (.h (.box (.t 0))), sm 2 (.p (.mov (.c (.bool false))))])
 (.seq (.reg [sm 3 (.p (.mov (.c (.func 234 []))))])
 (.seq (.reg [fa 5 4 1, ld 6 5, sm 7 (.p (.bin .geq (.t 6) (.c (.int .i64 (-131072))))), mv 8 7, ⟨some 9, .p (.fieldA 4 (.t 1)), (some (8, true))⟩, ⟨some 10, .h (.load false 1 (.t 9)), (some (8, true))⟩, ⟨some 11, .p (.bin .leq (.t 10) (.c (.int .i64 131071))), (some (8, true))⟩, sm 12 (.p (.pick (.t 8) (.t 11) (.c (.bool false)))), mv 4 12])
 (.seq (.seq (.reg [fa 13 0 1, ld 14 13, sm 15 (.call 215 [(.t 14)])])
 (.block 0 (.seq (.reg [sm 17 (.p (.bin .eql (.t 15) (.c (.int .i64 1)))), mv 16 17])
 (.cond (.t 16) (.seq (.reg [mv 18 3, fa 19 1 1, ld 20 19, sm 21 (.callv (.t 18) [(.t 20)]), mv 22 21, ⟨some 23, .p (.mov (.t 3)), (some (22, true))⟩, ⟨some 24, .p (.fieldA 2 (.t 1)), (some (22, true))⟩, ⟨some 25, .h (.load false 1 (.t 24)), (some (22, true))⟩, ⟨some 26, .callv (.t 23) [(.t 25)], (some (22, true))⟩, sm 27 (.p (.pick (.t 22) (.t 26) (.c (.bool false)))), mv 28 27, ⟨some 29, .p (.mov (.t 3)), (some (28, true))⟩, ⟨some 30, .p (.fieldA 3 (.t 1)), (some (28, true))⟩, ⟨some 31, .h (.load false 1 (.t 30)), (some (28, true))⟩, ⟨some 32, .callv (.t 29) [(.t 31)], (some (28, true))⟩, sm 33 (.p (.pick (.t 28) (.t 32) (.c (.bool false)))), mv 34 33, ⟨some 35, .p (.fieldA 4 (.t 1)), (some (34, true))⟩, ⟨some 36, .h (.load false 1 (.t 35)), (some (34, true))⟩, ⟨some 37, .p (.bin .eql (.t 36) (.c zi6)), (some (34, true))⟩, sm 38 (.p (.pick (.t 34) (.t 37) (.c (.bool false)))), mv 2 38])
 .ret) (.seq (.reg [sm 40 (.p (.bin .eql (.t 15) (.c (.int .i64 2)))), mv 39 40])
 (.cond (.t 39) (.seq (.reg [mv 41 3, fa 42 1 1, ld 43 42, sm 44 (.callv (.t 41) [(.t 43)]), mv 45 44, ⟨some 46, .p (.mov (.t 3)), (some (45, true))⟩, ⟨some 47, .p (.fieldA 2 (.t 1)), (some (45, true))⟩, ⟨some 48, .h (.load false 1 (.t 47)), (some (45, true))⟩, ⟨some 49, .callv (.t 46) [(.t 48)], (some (45, true))⟩, sm 50 (.p (.pick (.t 45) (.t 49) (.c (.bool false)))), mv 51 50, ⟨some 52, .p (.mov (.t 4)), (some (51, true))⟩, sm 53 (.p (.pick (.t 51) (.t 52) (.c (.bool false)))), mv 54 53, ⟨some 55, .p (.fieldA 3 (.t 1)), (some (54, true))⟩, ⟨some 56, .h (.load false 1 (.t 55)), (some (54, true))⟩, ⟨some 57, .p (.bin .eql (.t 56) (.c zi6)), (some (54, true))⟩, sm 58 (.p (.pick (.t 54) (.t 57) (.c (.bool false)))), mv 2 58])
 .ret) (.seq (.reg [sm 60 (.p (.bin .eql (.t 15) (.c (.int .i64 3)))), mv 59 60])
 (.cond (.t 59) (.seq (.reg [mv 61 3, fa 62 1 1, ld 63 62, sm 64 (.callv (.t 61) [(.t 63)]), mv 65 64, ⟨some 66, .p (.mov (.t 4)), (some (65, true))⟩, sm 67 (.p (.pick (.t 65) (.t 66) (.c (.bool false)))), mv 68 67, ⟨some 69, .p (.fieldA 2 (.t 1)), (some (68, true))⟩, ⟨some 70, .h (.load false 1 (.t 69)), (some (68, true))⟩, ⟨some 71, .p (.bin .eql (.t 70) (.c zi6)), (some (68, true))⟩, sm 72 (.p (.pick (.t 68) (.t 71) (.c (.bool false)))), mv 73 72, ⟨some 74, .p (.fieldA 3 (.t 1)), (some (73, true))⟩, ⟨some 75, .h (.load false 1 (.t 74)), (some (73, true))⟩, ⟨some 76, .p (.bin .eql (.t 75) (.c zi6)), (some (73, true))⟩, sm 77 (.p (.pick (.t 73) (.t 76) (.c (.bool false)))), mv 2 77])
 .ret) (.seq (.reg [sm 79 (.p (.bin .eql (.t 15) (.c (.int .i64 4)))), mv 78 79])
 (.cond (.t 78) (.seq (.reg [la 80 5 1, fa 81 0 1, ld 82 81, fa 83 2 1, ld 84 83, sm 85 (.v (.build [zi6, zi6, zi6, zi6, zi6] [(0, 1, (.t 82)), (2, 1, (.t 84))])), sm 86 (.v (.eqa false [(.i .i64), (.i .i64), (.i .i64), (.i .i64), (.i .i64)] (.t 80) (.t 85))), mv 87 86, ⟨some 88, .p (.mov (.t 3)), (some (87, true))⟩, ⟨some 89, .p (.fieldA 2 (.t 1)), (some (87, true))⟩, ⟨some 90, .h (.load false 1 (.t 89)), (some (87, true))⟩, ⟨some 91, .callv (.t 88) [(.t 90)], (some (87, true))⟩, sm 92 (.p (.pick (.t 87) (.t 91) (.c (.bool false)))), mv 2 92])
 .ret) (.seq (.reg [sm 94 (.p (.bin .eql (.t 15) (.c (.int .i64 5)))), mv 93 94])
 (.cond (.t 93) (.seq (.reg [la 95 5 1, fa 96 0 1, ld 97 96, sm 98 (.v (.build [zi6, zi6, zi6, zi6, zi6] [(0, 1, (.t 97))])), sm 99 (.v (.eqa false [(.i .i64), (.i .i64), (.i .i64), (.i .i64), (.i .i64)] (.t 95) (.t 98))), mv 2 99])
 .ret) .skip))))))))))))
 (.seq (.reg [sm 2 (.p (.mov (.c (.bool false))))])
 .ret)))))
def rs216 : List AR := [.tmp 2]
theorem ok216 : okF Tryz.prog 216 100 ac216 rs216 = true := by kernel_rfl
def ac218 : AC := (.seq (.reg [sm 2 (.h (.box (.t 0))), sm 4 (.p (.mov (.c zi6)))])
 (.seq (.seq (.reg [mv 5 1, sm 6 (.call 163 [(.t 5)]), sm 7 (.p (.un .not (.t 6)))])
 (.cond (.t 7) (.seq (.reg [sm 4 (.p (.mov (.c zi6)))])
 .ret) .skip))
 (.seq (.reg [mv 8 1, fa 9 9 2, sm 10 (.p (.idxA 1 (some 4) (.t 9) (.t 8))), ld 11 10, mv 4 11])
 .ret)))
def rs218 : List AR := [.tmp 4]
theorem ok218 : okF Tryz.prog 218 12 ac218 rs218 = true := by kernel_rfl
def ac219 : AC := (.seq (.reg [sm 3 (.h (.box (.t 0))), sm 6 (.p (.mov (.c zu3))), sm 7 (.p (.mov (.c (.bool false))))])
 (.seq (.seq (.reg [la 9 1 3, mv 10 1, mv 11 2, sm 12 (.call 213 [(.t 9), (.t 10), (.t 11)]), sm 13 (.p (.un .not (.t 12)))])
 (.cond (.t 13) (.seq (.reg [sm 6 (.p (.mov (.c zu3))), sm 7 (.p (.mov (.c (.bool false))))])
 .ret) .skip))
 (.seq (.reg [fa 14 0 3, ld 15 14, mv 16 1, sm 17 (.p (.bin .quo (.t 16) (.c (.int .i64 128)))), sm 18 (.p (.idxA 128 none (.t 15) (.t 17))), mv 19 1, sm 20 (.p (.bin .rem (.t 19) (.c (.int .i64 128)))), sm 21 (.d (.asub 1 128 (.t 18) (some (.t 20)) none)), mv 8 21])
 (.seq (.seq (.reg [mv 22 2, sm 23 (.p (.bin .eql (.t 22) (.c (.int .i64 1))))])
 (.cond (.t 23) (.seq (.reg [mv 24 8, sm 25 (.p (.idxA 1 none (.t 24) (.c zi6))), ld 26 25, sm 27 (.p (.conv .u32 (.t 26))), mv 6 27, sm 7 (.p (.mov (.c (.bool true))))])
 .ret) .skip))
 (.seq (.draw 24 [] [mv 28 8, sm 29 (.p (.idxA 1 none (.t 28) (.c zi6))), ld 30 29, sm 31 (.p (.conv .u32 (.t 30))), mv 32 8, sm 33 (.p (.idxA 1 none (.t 32) (.c (.int .i64 1)))), ld 34 33, sm 35 (.p (.conv .u32 (.t 34))), sm 36 (.p (.binw .shl (.t 35) (.c (.int .u64 8)))), sm 37 (.p (.binw .or (.t 31) (.t 36))), mv 38 8, sm 39 (.p (.idxA 1 none (.t 38) (.c (.int .i64 2)))), ld 40 39, sm 41 (.p (.conv .u32 (.t 40))), sm 42 (.p (.binw .shl (.t 41) (.c (.int .u64 16)))), sm 43 (.p (.binw .or (.t 37) (.t 42))), mv 44 8, sm 45 (.p (.idxA 1 none (.t 44) (.c (.int .i64 3)))), ld 46 45, sm 47 (.p (.conv .u32 (.t 46))), sm 48 (.p (.binw .shl (.t 47) (.c (.int .u64 24)))), sm 49 (.p (.binw .or (.t 43) (.t 48))), mv 6 49, sm 7 (.p (.mov (.c (.bool true))))])
 .ret)))))
def rs219 : List AR := [.tmp 6, .tmp 7]
theorem ok219 : okF Tryz.prog 219 50 ac219 rs219 = true := by kernel_rfl
def ac221 : AC := (.seq (.reg [sm 6 (.p (.mov (.c zu3)))])
 (.seq (.reg [mv 9 0, mv 10 0, sm 11 (.p (.nilchk (.t 10))), fa 12 32 11, fa 13 63 12, ld 14 13, mv 15 1, mv 16 2, sm 17 (.v (.build [zi6, zi6, (.bool false)] [(0, 1, (.t 15)), (1, 1, (.t 16))])), sm 18 (.d (.bslice 3 1 [zi6, zi6, (.bool false)] [(0, (.t 17))])), sm 19 (.l (.append 3 24 (.t 14) (.t 18))), sm 20 (.p (.nilchk (.t 9))), fa 21 32 20, fa 22 63 21, st 1 22 19])
 (.seq (.reg [mv 24 0, sm 25 (.p (.nilchk (.t 24))), fa 26 30 25, la 27 1 26, mv 28 1, mv 29 2, sm 30 (.call 219 [(.t 27), (.t 28), (.t 29)]), mv 23 30, sm 31 (.p (.extract 0 (.t 23))), sm 32 (.p (.extract 1 (.t 23))), mv 7 31, mv 8 32])
 (.seq (.reg [mv 33 7, mv 6 33])
 .ret))))
def rs221 : List AR := [.tmp 6]
theorem ok221 : okF Tryz.prog 221 34 ac221 rs221 = true := by kernel_rfl
def ac222 : AC := (.seq (.reg [sm 6 (.p (.mov (.c zi6)))])
 (.seq (.draw 26 [(23, 24), (19, 24), (3, 24), (10, 24), (18, 24)] [mv 14 0, sm 15 (.p (.nilchk (.t 14))), fa 16 30 15, la 17 1 16, mv 18 0, sm 19 (.p (.nilchk (.t 18))), fa 20 32 19, fa 21 31 20, fa 22 17 21, sm 23 (.p (.idxA 1 (some 9) (.t 22) (.c zi6))), ld 24 23, mv 25 1, mv 26 2, mv 27 0, sm 28 (.p (.nilchk (.t 27))), fa 29 32 28, fa 30 31 29, fa 31 26 30, ld 32 31, sm 33 (.call 235 [(.t 17), (.t 24), (.t 25), (.t 26), (.t 32)]), mv 13 33, sm 34 (.p (.extract 0 (.t 13))), sm 35 (.p (.extract 1 (.t 13))), sm 7 (.h (.alloc [zi6, zi6, .nils, .nils])), st 4 7 34, mv 8 35])
 (.seq (.seq (.reg [fa 36 3 7, ld 37 36, sm 38 (.p (.len false (.t 37))), sm 39 (.p (.mov (.c zi6)))])
 (.block 0 (.loop (.seq (.reg [sm 40 (.p (.bin .lss (.t 39) (.t 38)))])
 (.seq (.cond (.t 40) .skip (.exit 0))
 (.seq (.block 1 (.seq (.reg [sm 41 (.p (.idxA 1 none (.t 37) (.t 39))), ld 42 41, mv 10 42])
 (.reg [mv 43 0, mv 44 10, sm 45 (.call 221 [(.t 43), (.t 44), (.c (.int .i64 4))])])))
 (.reg [sm 46 (.p (.bin .add (.t 39) (.c (.int .i64 1)))), mv 39 46])))))))
 (.seq (.seq (.reg [fa 47 2 7, ld 48 47, sm 49 (.p (.len false (.t 48))), sm 50 (.p (.mov (.c zi6)))])
 (.block 2 (.loop (.seq (.reg [sm 51 (.p (.bin .lss (.t 50) (.t 49)))])
 (.seq (.cond (.t 51) .skip (.exit 2))
 (.seq (.block 3 (.seq (.reg [sm 52 (.p (.idxA 3 none (.t 48) (.t 50))), la 53 3 52, sm 12 (.h (.alloc [zi6, zi6, zu3])), st 3 12 53])
 (.reg [mv 54 0, la 55 3 12, sm 56 (.call 225 [(.t 54), (.t 55)])])))
 (.reg [sm 57 (.p (.bin .add (.t 50) (.c (.int .i64 1)))), mv 50 57])))))))
 (.seq (.seq (.reg [mv 58 8, sm 59 (.p (.bin .neq (.t 58) (.c zi6)))])
 (.cond (.t 59) (.reg [mv 60 0, mv 61 8, mv 62 1, sm 63 (.callx 207 [(.t 60), (.t 61), (.t 62)])]) .skip))
 (.seq (.reg [fa 64 0 7, ld 65 64, mv 6 65])
 .ret))))))
def rs222 : List AR := [.tmp 6]
theorem ok222 : okF Tryz.prog 222 66 ac222 rs222 = true := by kernel_rfl
def ac224 : AC := (.seq (.reg [mv 4 0, sm 5 (.p (.nilchk (.t 4))), fa 6 103 5, fa 7 1 6, ld 8 7, sm 9 (.p (.bin .neq (.t 8) (.c zi6)))])
 (.cond (.t 9) (.draw 12 [(5, 11)] [mv 10 0, mv 11 0, sm 12 (.p (.nilchk (.t 11))), fa 13 103 12, fa 14 1 13, ld 15 14, mv 16 1, sm 17 (.p (.nilchk (.t 10))), fa 18 0 17, fa 19 1 18, sm 20 (.p (.idxA 1 (some 16) (.t 19) (.t 15))), st 1 20 16]) .skip))
def rs224 : List AR := []
theorem ok224 : okF Tryz.prog 224 21 ac224 rs224 = true := by kernel_rfl
def ac230 : AC := (.seq (.draw 22 [(6, 17), (12, 17), (17, 21), (6, 21), (12, 21)] [mv 2 0, mv 3 0, mv 4 0, sm 5 (.p (.nilchk (.t 4))), fa 6 103 5, fa 7 0 6, ld 8 7, sm 9 (.p (.bin .eql (.t 8) (.c (.int .i64 46)))), mv 10 0, sm 11 (.p (.nilchk (.t 10))), fa 12 103 11, fa 13 4 12, ld 14 13, sm 15 (.v (.build [(.bool false), zi6, zu3] [(0, 1, (.t 9)), (1, 1, (.t 14))])), sm 16 (.p (.nilchk (.t 2))), fa 17 32 16, fa 18 64 17, ⟨none, .h (.store 1 (.t 18) (.c (.bool true))), none⟩, sm 19 (.p (.nilchk (.t 3))), fa 20 32 19, fa 21 65 20, st 3 21 15])
 (.seq (.reg [mv 22 0, sm 23 (.p (.nilchk (.t 22))), fa 24 32 23, fa 25 65 24, fa 26 0 25, ld 27 26, sm 28 (.p (.un .not (.t 27)))])
 (.cond (.t 28) (.draw 17 [(11, 16), (6, 16)] [mv 29 0, mv 30 0, mv 31 0, sm 32 (.p (.nilchk (.t 31))), fa 33 103 32, fa 34 1 33, ld 35 34, sm 36 (.p (.nilchk (.t 30))), fa 37 0 36, fa 38 1 37, sm 39 (.p (.idxA 1 (some 16) (.t 38) (.t 35))), ld 40 39, sm 41 (.p (.nilchk (.t 29))), fa 42 32 41, fa 43 65 42, fa 44 2 43, st 1 44 40]) .skip)))
def rs230 : List AR := []
theorem ok230 : okF Tryz.prog 230 45 ac230 rs230 = true := by kernel_rfl
def ac233 : AC := (.seq (.reg [sm 0 (.h (.alloc [(.str .empty), zi6, (.str .empty), zi6, (.str .empty), zi6, (.str .empty), zi6, (.str .empty), zi6, (.str .empty), zi6, (.str .empty), zi6, (.str .empty), zi6, (.str .empty), zi6, (.str .empty), zi6, (.str .empty), zi6, (.str .empty), zi6, (.str .empty), zi6, (.str .empty), zi6, (.str .empty), zi6, (.str .empty), zi6, (.str .empty), zi6, (.str .empty), zi6, (.str .empty), zi6, (.str .empty), zi6, (.str .empty), zi6, (.str .empty), zi6, (.str .empty), zi6, (.str .empty), zi6, (.str .empty), zi6, (.str .empty), zi6, (.str .empty), zi6, (.str .empty), zi6, (.str .empty), zi6, (.str .empty), zi6, (.str .empty), zi6, (.str .empty), zi6, (.str .empty), zi6, (.str .empty), zi6, (.str .empty), zi6, (.str .empty), zi6, (.str .empty), zi6, (.str .empty), zi6, (.str .empty), zi6, (.str .empty), zi6, (.str .empty), zi6, (.str .empty), zi6, (.str .empty), zi6, (.str .empty), zi6, (.str .empty), zi6, (.str .empty), zi6, (.str .empty), zi6, (.str .empty), zi6, (.str .empty), zi6]))])
 (.seq (.reg [⟨some 1, .v (.build [(.str .empty), zi6] [(0, 1, (.c (.str ⟨#[97, 100, 100]⟩))), (1, 1, (.c (.int .i64 1)))]), none⟩, ⟨some 2, .v (.build [(.str .empty), zi6] [(0, 1, (.c (.str ⟨#[115, 117, 98]⟩))), (1, 1, (.c (.int .i64 1)))]), none⟩, ⟨some 3, .v (.build [(.str .empty), zi6] [(0, 1, (.c (.str ⟨#[97, 110, 100]⟩))), (1, 1, (.c (.int .i64 1)))]), none⟩, ⟨some 4, .v (.build [(.str .empty), zi6] [(0, 1, (.c (.str ⟨#[111, 114]⟩))), (1, 1, (.c (.int .i64 1)))]), none⟩, ⟨some 5, .v (.build [(.str .empty), zi6] [(0, 1, (.c (.str ⟨#[120, 111, 114]⟩))), (1, 1, (.c (.int .i64 1)))]), none⟩, ⟨some 6, .v (.build [(.str .empty), zi6] [(0, 1, (.c (.str ⟨#[115, 104, 108]⟩))), (1, 1, (.c (.int .i64 1)))]), none⟩, ⟨some 7, .v (.build [(.str .empty), zi6] [(0, 1, (.c (.str ⟨#[115, 104, 114]⟩))), (1, 1, (.c (.int .i64 1)))]), none⟩, ⟨some 8, .v (.build [(.str .empty), zi6] [(0, 1, (.c (.str ⟨#[109, 117, 108]⟩))), (1, 1, (.c (.int .i64 1)))]), none⟩, ⟨some 9, .v (.build [(.str .empty), zi6] [(0, 1, (.c (.str ⟨#[100, 105, 118]⟩))), (1, 1, (.c (.int .i64 1)))]), none⟩, ⟨some 10, .v (.build [(.str .empty), zi6] [(0, 1, (.c (.str ⟨#[114, 101, 109]⟩))), (1, 1, (.c (.int .i64 1)))]), none⟩, ⟨some 11, .v (.build [(.str .empty), zi6] [(0, 1, (.c (.str ⟨#[115, 108, 116]⟩))), (1, 1, (.c (.int .i64 1)))]), none⟩, ⟨some 12, .v (.build [(.str .empty), zi6] [(0, 1, (.c (.str ⟨#[115, 108, 116, 117]⟩))), (1, 1, (.c (.int .i64 1)))]), none⟩, ⟨some 13, .v (.build [(.str .empty), zi6] [(0, 1, (.c (.str ⟨#[97, 100, 100, 105]⟩))), (1, 1, (.c (.int .i64 2)))]), none⟩, ⟨some 14, .v (.build [(.str .empty), zi6] [(0, 1, (.c (.str ⟨#[104, 105, 103, 104]⟩))), (1, 1, (.c (.int .i64 3)))]), none⟩, ⟨some 15, .v (.build [(.str .empty), zi6] [(0, 1, (.c (.str ⟨#[108, 119]⟩))), (1, 1, (.c (.int .i64 2)))]), none⟩, ⟨some 16, .v (.build [(.str .empty), zi6] [(0, 1, (.c (.str ⟨#[115, 119]⟩))), (1, 1, (.c (.int .i64 2)))]), none⟩, ⟨some 17, .v (.build [(.str .empty), zi6] [(0, 1, (.c (.str ⟨#[108, 98]⟩))), (1, 1, (.c (.int .i64 2)))]), none⟩, ⟨some 18, .v (.build [(.str .empty), zi6] [(0, 1, (.c (.str ⟨#[115, 98]⟩))), (1, 1, (.c (.int .i64 2)))]), none⟩, ⟨some 19, .v (.build [(.str .empty), zi6] [(0, 1, (.c (.str ⟨#[115, 119, 97, 112]⟩))), (1, 1, (.c (.int .i64 2)))]), none⟩, ⟨some 20, .v (.build [(.str .empty), zi6] [(0, 1, (.c (.str ⟨#[98, 101, 113]⟩))), (1, 1, (.c (.int .i64 2)))]), none⟩, ⟨some 21, .v (.build [(.str .empty), zi6] [(0, 1, (.c (.str ⟨#[98, 110, 101]⟩))), (1, 1, (.c (.int .i64 2)))]), none⟩, ⟨some 22, .v (.build [(.str .empty), zi6] [(0, 1, (.c (.str ⟨#[98, 108, 116]⟩))), (1, 1, (.c (.int .i64 2)))]), none⟩, ⟨some 23, .v (.build [(.str .empty), zi6] [(0, 1, (.c (.str ⟨#[98, 108, 116, 117]⟩))), (1, 1, (.c (.int .i64 2)))]), none⟩, ⟨some 24, .v (.build [(.str .empty), zi6] [(0, 1, (.c (.str ⟨#[106, 97, 108]⟩))), (1, 1, (.c (.int .i64 3)))]), none⟩, ⟨some 25, .v (.build [(.str .empty), zi6] [(0, 1, (.c (.str ⟨#[106, 97, 108, 114]⟩))), (1, 1, (.c (.int .i64 2)))]), none⟩, ⟨some 26, .v (.build [(.str .empty), zi6] [(0, 1, (.c (.str ⟨#[101, 99, 97, 108, 108]⟩))), (1, 1, (.c (.int .i64 5)))]), none⟩, ⟨some 27, .v (.build [(.str .empty), zi6] [(0, 1, (.c (.str ⟨#[101, 114, 101, 116]⟩))), (1, 1, (.c (.int .i64 5)))]), none⟩, ⟨some 28, .v (.build [(.str .empty), zi6] [(0, 1, (.c (.str ⟨#[99, 115, 114, 114]⟩))), (1, 1, (.c (.int .i64 3)))]), none⟩, ⟨some 29, .v (.build [(.str .empty), zi6] [(0, 1, (.c (.str ⟨#[99, 115, 114, 119]⟩))), (1, 1, (.c (.int .i64 3)))]), none⟩, ⟨some 30, .v (.build [(.str .empty), zi6] [(0, 1, (.c (.str ⟨#[102, 108, 117, 115, 104]⟩))), (1, 1, (.c (.int .i64 4)))]), none⟩, ⟨some 31, .v (.build [(.str .empty), zi6] [(0, 1, (.c (.str ⟨#[119, 97, 105, 116]⟩))), (1, 1, (.c (.int .i64 5)))]), none⟩, ⟨some 32, .v (.build [(.str .empty), zi6] [(0, 1, (.c (.str ⟨#[105, 110]⟩))), (1, 1, (.c (.int .i64 3)))]), none⟩, ⟨some 33, .v (.build [(.str .empty), zi6] [(0, 1, (.c (.str ⟨#[111, 117, 116]⟩))), (1, 1, (.c (.int .i64 3)))]), none⟩, ⟨some 34, .v (.build [(.str .empty), zi6] [(0, 1, (.c (.str ⟨#[104, 97, 108, 116]⟩))), (1, 1, (.c (.int .i64 5)))]), none⟩, sm 35 (.v (.build [(.str .empty), zi6, (.str .empty), zi6, (.str .empty), zi6, (.str .empty), zi6, (.str .empty), zi6, (.str .empty), zi6, (.str .empty), zi6, (.str .empty), zi6, (.str .empty), zi6, (.str .empty), zi6, (.str .empty), zi6, (.str .empty), zi6, (.str .empty), zi6, (.str .empty), zi6, (.str .empty), zi6, (.str .empty), zi6, (.str .empty), zi6, (.str .empty), zi6, (.str .empty), zi6, (.str .empty), zi6, (.str .empty), zi6, (.str .empty), zi6, (.str .empty), zi6, (.str .empty), zi6, (.str .empty), zi6, (.str .empty), zi6, (.str .empty), zi6, (.str .empty), zi6, (.str .empty), zi6, (.str .empty), zi6, (.str .empty), zi6, (.str .empty), zi6, (.str .empty), zi6, (.str .empty), zi6, (.str .empty), zi6, (.str .empty), zi6, (.str .empty), zi6, (.str .empty), zi6, (.str .empty), zi6, (.str .empty), zi6, (.str .empty), zi6, (.str .empty), zi6, (.str .empty), zi6, (.str .empty), zi6, (.str .empty), zi6, (.str .empty), zi6, (.str .empty), zi6, (.str .empty), zi6, (.str .empty), zi6] [(2, 2, (.t 1)), (4, 2, (.t 2)), (6, 2, (.t 3)), (8, 2, (.t 4)), (10, 2, (.t 5)), (12, 2, (.t 6)), (14, 2, (.t 7)), (16, 2, (.t 8)), (18, 2, (.t 9)), (20, 2, (.t 10)), (22, 2, (.t 11)), (24, 2, (.t 12)), (32, 2, (.t 13)), (34, 2, (.t 14)), (40, 2, (.t 15)), (42, 2, (.t 16)), (44, 2, (.t 17)), (46, 2, (.t 18)), (48, 2, (.t 19)), (56, 2, (.t 20)), (58, 2, (.t 21)), (60, 2, (.t 22)), (62, 2, (.t 23)), (64, 2, (.t 24)), (66, 2, (.t 25)), (80, 2, (.t 26)), (82, 2, (.t 27)), (84, 2, (.t 28)), (86, 2, (.t 29)), (88, 2, (.t 30)), (90, 2, (.t 31)), (92, 2, (.t 32)), (94, 2, (.t 33)), (96, 2, (.t 34))])), st 98 0 35])
 .ret))
def rs233 : List AR := [.cell 0 true 98]
theorem ok233 : okF Tryz.prog 233 36 ac233 rs233 = true := by kernel_rfl
def ac234 : AC := (.seq (.reg [sm 2 (.p (.mov (.c (.bool false))))])
 (.seq (.reg [mv 3 0, sm 4 (.p (.bin .geq (.t 3) (.c zi6))), mv 5 4, ⟨some 6, .p (.mov (.t 0)), (some (5, true))⟩, ⟨some 7, .p (.bin .lss (.t 6) (.c (.int .i64 16))), (some (5, true))⟩, sm 8 (.p (.pick (.t 5) (.t 7) (.c (.bool false)))), mv 2 8])
 .ret))
def rs234 : List AR := [.tmp 2]
theorem ok234 : okF Tryz.prog 234 9 ac234 rs234 = true := by kernel_rfl
def acA235 : AC := (.reg [sm 5 (.h (.box (.t 0))), sm 8 (.h (.box (.t 3))), sm 10 (.h (.alloc [zi6, zi6, .nils, .nils])), sm 11 (.h (.alloc [zi6]))])
def qs235 : List AO := [sm 17 (.p (.mkfn 241 [(.t 10), (.t 8), (.t 11)]))]
def acB235 : AC := (.seq (.seq (.reg [mv 18 1, sm 19 (.p (.binw .eql (.t 18) (.c zu3)))])
 (.cond (.t 19) (.seq (.reg [mv 20 2, sm 21 (.p (.conv .i64 (.t 20))), la 22 1 5, sm 23 (.call 132 [(.t 22)]), sm 24 (.p (.bin .lss (.t 21) (.t 23))), sm 25 (.callx 242 [(.t 24)])])
 (.seq (.reg [mv 26 2, sm 27 (.p (.conv .i64 (.t 26))), sm 28 (.v (.build [zi6, zi6, .nils, .nils] [(0, 1, (.t 27)), (1, 1, (.c (.int .i64 (-1))))])), st 4 10 28, ⟨none, .h (.store 1 (.t 11) (.c zi6)), none⟩])
 .ret)) .skip))
 (.seq (.reg [mv 29 2, sm 30 (.p (.binw .lss (.t 29) (.c (.int .u32 131072)))), mv 31 30, ⟨some 32, .h (.load true 1 (.t 5)), (some (31, true))⟩, ⟨some 33, .p (.mov (.t 1)), (some (31, true))⟩, ⟨some 34, .call 243 [(.t 32), (.t 33)], (some (31, true))⟩, sm 35 (.p (.pick (.t 31) (.t 34) (.c (.bool false)))), sm 36 (.callx 242 [(.t 35)])])
 (.seq (.reg [mv 37 1, mv 38 2, sm 39 (.p (.binw .shr (.t 38) (.c (.int .u64 12)))), sm 40 (.p (.binw .mul (.c (.int .u32 4)) (.t 39))), sm 41 (.p (.binw .add (.t 37) (.t 40))), mv 12 41])
 (.seq (.reg [la 42 1 5, mv 43 12, sm 44 (.call 244 [(.t 42), (.t 43)]), mv 13 44])
 (.seq (.reg [mv 45 12, sm 46 (.p (.conv .i64 (.t 45))), sm 47 (.d (.bslice 1 1 [zi6] [(0, (.t 46))])), fa 48 3 10, st 1 48 47])
 (.seq (.reg [mv 49 13, sm 50 (.call 245 [(.t 49), (.c (.int .u32 1))]), mv 51 50, ⟨some 52, .p (.mov (.t 13)), (some (51, true))⟩, ⟨some 53, .h (.load true 1 (.t 5)), (some (51, true))⟩, ⟨some 54, .call 246 [(.t 52), (.t 53)], (some (51, true))⟩, sm 55 (.p (.pick (.t 51) (.t 54) (.c (.bool false)))), sm 56 (.callx 242 [(.t 55)])])
 (.seq (.reg [mv 57 13, sm 58 (.call 247 [(.t 57)]), mv 59 2, sm 60 (.p (.binw .shr (.t 59) (.c (.int .u64 7)))), sm 61 (.p (.binw .rem (.t 60) (.c (.int .u32 32)))), sm 62 (.p (.binw .mul (.t 61) (.c (.int .u32 128)))), sm 63 (.p (.binw .add (.t 58) (.t 62))), mv 14 63])
 (.seq (.seq (.reg [mv 64 13, sm 65 (.call 245 [(.t 64), (.c (.int .u32 64))]), sm 66 (.p (.un .not (.t 65)))])
 (.cond (.t 66) (.seq (.reg [mv 67 13, sm 68 (.call 247 [(.t 67)]), mv 69 2, sm 70 (.p (.binw .shr (.t 69) (.c (.int .u64 7)))), sm 71 (.p (.binw .rem (.t 70) (.c (.int .u32 32)))), sm 72 (.p (.binw .mul (.t 71) (.c (.int .u32 4)))), sm 73 (.p (.binw .add (.t 68) (.t 72))), mv 12 73])
 (.seq (.reg [la 74 1 5, mv 75 12, sm 76 (.call 244 [(.t 74), (.t 75)]), mv 13 76])
 (.seq (.reg [fa 77 3 10, ld 78 77, mv 79 12, sm 80 (.p (.conv .i64 (.t 79))), sm 81 (.d (.bslice 1 1 [zi6] [(0, (.t 80))])), sm 82 (.l (.append 1 8 (.t 78) (.t 81))), fa 83 3 10, st 1 83 82])
 (.seq (.reg [mv 84 13, sm 85 (.call 245 [(.t 84), (.c (.int .u32 1))]), mv 86 85, ⟨some 87, .p (.mov (.t 13)), (some (86, true))⟩, ⟨some 88, .call 245 [(.t 87), (.c (.int .u32 64))], (some (86, true))⟩, ⟨some 89, .p (.un .not (.t 88)), (some (86, true))⟩, sm 90 (.p (.pick (.t 86) (.t 89) (.c (.bool false)))), sm 91 (.callx 242 [(.t 90)])])
 (.reg [mv 92 13, sm 93 (.call 247 [(.t 92)]), mv 14 93]))))) .skip))
 (.seq (.reg [la 94 1 5, mv 95 14, sm 96 (.call 243 [(.t 94), (.t 95)]), sm 97 (.callx 242 [(.t 96)])])
 (.seq (.reg [ld 98 8, sm 99 (.p (.bin .eql (.t 98) (.c (.int .i64 2)))), mv 100 99, ⟨some 101, .h (.load false 1 (.t 8)), (some (100, false))⟩, ⟨some 102, .p (.bin .eql (.t 101) (.c (.int .i64 3))), (some (100, false))⟩, sm 103 (.p (.pick (.t 100) (.c (.bool true)) (.t 102))), mv 15 103])
 (.seq (.reg [mv 104 15, sm 105 (.p (.un .not (.t 104))), mv 106 105, ⟨some 107, .p (.mov (.t 13)), (some (106, false))⟩, ⟨some 108, .call 245 [(.t 107), (.c (.int .u32 2))], (some (106, false))⟩, sm 109 (.p (.pick (.t 106) (.c (.bool true)) (.t 108))), sm 110 (.callx 242 [(.t 109)])])
 (.seq (.reg [ld 111 8, sm 112 (.p (.bin .neq (.t 111) (.c (.int .i64 4)))), mv 113 112, ⟨some 114, .p (.mov (.t 13)), (some (113, false))⟩, ⟨some 115, .call 245 [(.t 114), (.c (.int .u32 8))], (some (113, false))⟩, sm 116 (.p (.pick (.t 113) (.c (.bool true)) (.t 115))), sm 117 (.callx 242 [(.t 116)])])
 (.seq (.reg [mv 118 4, sm 119 (.p (.un .not (.t 118))), mv 120 119, ⟨some 121, .p (.mov (.t 13)), (some (120, false))⟩, ⟨some 122, .call 245 [(.t 121), (.c (.int .u32 4))], (some (120, false))⟩, sm 123 (.p (.pick (.t 120) (.c (.bool true)) (.t 122))), sm 124 (.callx 242 [(.t 123)])])
 (.seq (.reg [mv 125 14, mv 126 2, sm 127 (.p (.binw .rem (.t 126) (.c (.int .u32 128)))), sm 128 (.p (.binw .add (.t 125) (.t 127))), sm 129 (.p (.conv .i64 (.t 128))), mv 130 12, sm 131 (.p (.conv .i64 (.t 130))), fa 132 0 10, st 1 132 129, fa 133 1 10, st 1 133 131])
 (.seq (.reg [mv 134 13, sm 135 (.p (.binw .or (.t 134) (.c (.int .u32 16)))), mv 16 135])
 (.seq (.seq (.reg [mv 136 15])
 (.cond (.t 136) (.reg [mv 137 16, sm 138 (.p (.binw .or (.t 137) (.c (.int .u32 32)))), mv 16 138]) .skip))
 (.seq (.seq (.reg [mv 139 16, mv 140 13, sm 141 (.p (.binw .neq (.t 139) (.t 140)))])
 (.cond (.t 141) (.reg [mv 142 12, sm 143 (.p (.conv .i64 (.t 142))), mv 144 16, sm 145 (.v (.build [zi6, zi6, zu3] [(0, 1, (.t 143)), (1, 1, (.c (.int .i64 4))), (2, 1, (.t 144))])), sm 146 (.d (.bslice 3 1 [zi6, zi6, zu3] [(0, (.t 145))])), fa 147 2 10, st 1 147 146]) .skip))
 (.seq (.reg [la 148 4 10, st 4 10 148, ⟨none, .h (.store 1 (.t 11) (.c zi6)), none⟩])
 .ret))))))))))))))))))
def rs235 : List AR := [.cell 10 true 4, .cell 11 false 1]
theorem ok235 : okFX Tryz.prog 235 149 acA235 qs235 17 acB235 rs235 = true := by kernel_rfl
def ac241 : AC := (.block 0 (.seq (.reg [sm 8 (.v (.isni false (.t 6)))])
 (.cond (.t 8) (.reg [mv 3 6]) (.seq (.reg [sm 9 (.v (.tas 423 (.agg []) (.t 6))), sm 10 (.p (.extract 1 (.t 9))), sm 11 (.p (.extract 0 (.t 9)))])
 (.cond (.t 10) (.seq (.reg [sm 4 (.h (.alloc [])), st 0 4 11])
 (.draw 8 [(1, 6), (4, 6), (6, 7), (1, 7), (4, 7)] [fa 12 3 0, ld 13 12, sm 14 (.v (.build [zi6, zi6, .nils, .nils] [(3, 1, (.t 13))])), sm 15 (.v (.build [zi6, zi6, zi6, zi6, zi6] [(0, 1, (.c zi6)), (1, 1, (.c (.int .i64 5))), (2, 1, (.c (.int .i64 6))), (3, 1, (.c (.int .i64 6))), (4, 1, (.c (.int .i64 4)))])), ld 16 1, sm 17 (.v (.idx false 1 5 (.t 15) (.t 16))), st 4 0 14, st 1 2 17])) (.seq (.reg [mv 5 6])
 (.reg [mv 7 5, ⟨none, .pan (.t 7), none⟩])))))))
theorem ok241 : okFD Tryz.prog 241 18 6 ac241 = true := by kernel_rfl
def ac242 : AC := (.seq (.reg [mv 2 0, sm 3 (.p (.un .not (.t 2)))])
 (.cond (.t 3) (.reg [sm 4 (.v (.build [] [])), sm 5 (.v (.mkI 423 (.t 4))), ⟨none, .pan (.t 5), none⟩]) .skip))
def rs242 : List AR := []
theorem ok242 : okF Tryz.prog 242 6 ac242 rs242 = true := by kernel_rfl
def ac280 : AC := (.seq (.reg [sm 3 (.h (.box (.t 0))), sm 6 (.p (.mov (.c .nils)))])
 (.seq (.reg [sm 7 (.p (.mov (.c .nils)))])
 (.seq (.seq (.reg [mv 10 2, sm 11 (.p (.len false (.t 10))), sm 12 (.p (.mov (.c zi6)))])
 (.block 0 (.loop (.seq (.reg [sm 13 (.p (.bin .lss (.t 12) (.t 11)))])
 (.seq (.cond (.t 13) .skip (.exit 0))
 (.seq (.block 1 (.seq (.reg [sm 14 (.p (.idxA 1 none (.t 10) (.t 12))), ld 15 14, mv 9 15])
 (.reg [mv 16 7, mv 17 1, fa 18 44 3, ld 19 18, fa 20 45 3, ld 21 20, mv 22 9, sm 23 (.v (.build [zi6, zi6, zi6, zi6, (.str .empty)] [(1, 1, (.t 17)), (2, 1, (.t 19)), (3, 1, (.t 21)), (4, 1, (.t 22))])), sm 24 (.d (.bslice 5 1 [zi6, zi6, zi6, zi6, (.str .empty)] [(0, (.t 23))])), sm 25 (.l (.append 5 48 (.t 16) (.t 24))), mv 7 25])))
 (.reg [sm 26 (.p (.bin .add (.t 12) (.c (.int .i64 1)))), mv 12 26])))))))
 (.seq (.reg [mv 27 7, mv 6 27])
 .ret))))
def rs280 : List AR := [.tmp 6]
theorem ok280 : okF Tryz.prog 280 28 ac280 rs280 = true := by kernel_rfl
def ac293 : AC := (.seq (.reg [sm 1 (.h (.box (.t 0))), sm 2 (.h (.alloc [zi6, zu3, zu3, zu3, zu3, zu3, zu3, zu3, zu3, zi6, zi6, zi6, zi6, zi6, zi6, (.bool false), (.bool false), (.bool false), (.bool false), zi6, zi6, zi6, zi6, zi6, zi6, zi6, zi6, (.str .empty), zi6, zu3, zu3, zi6, zi6, .nils, .nils, zu3, zu3, zu3, zu3, zi6, zi6, zi6, zi6])), sm 3 (.h (.alloc [.nils, zu3, .nils, zi6]))])
 (.seq (.reg [fa 10 0 1, fa 11 0 10, fa 12 27 11, la 13 2 12, fa 14 0 1, fa 15 46 14, la 16 3 15, sm 17 (.call 294 [(.t 13), (.t 16)]), mv 9 17, sm 18 (.p (.extract 0 (.t 9))), sm 19 (.p (.extract 1 (.t 9))), sm 20 (.p (.extract 2 (.t 9))), sm 21 (.p (.extract 3 (.t 9))), sm 4 (.h (.alloc [(.str .empty), zi6])), st 2 4 18, mv 5 19, mv 6 20, mv 7 21])
 (.seq (.seq (.reg [mv 22 7, sm 23 (.p (.un .not (.t 22)))])
 (.cond (.t 23) (.seq (.reg [fa 24 0 1, la 25 49 24, sm 26 (.call 193 [(.t 25), (.c (.int .i64 5))]), sm 27 (.p (.extract 0 (.t 26))), sm 28 (.p (.extract 1 (.t 26))), st 43 2 27, st 4 3 28])
 .ret) .skip))
 (.seq (.reg [la 29 2 4, fa 30 0 1, fa 31 0 30, fa 32 27 31, st 2 32 29])
 (.seq (.reg [fa 33 0 1, fa 34 43 33, la 35 1 34, mv 36 5, sm 37 (.v (.build [.nils, zu3, .nils, zi6] [(0, 1, (.t 35)), (1, 1, (.t 36))])), sm 8 (.h (.alloc [.nils, zu3, .nils, zi6])), st 4 8 37])
 (.seq (.seq (.reg [mv 38 6, ⟨some 39, .p (.bin .neq (.t 38) (.c (.str ⟨#[]⟩))), none⟩])
 (.cond (.t 39) (.reg [fa 40 0 1, la 41 49 40, mv 42 6, sm 43 (.d (.bslice 1 1 [(.str .empty)] [(0, (.t 42))])), sm 44 (.call 280 [(.t 41), (.c (.int .i64 1)), (.t 43)]), fa 45 2 8, st 1 45 44]) .skip))
 (.seq (.draw 6 [(2, 4), (3, 5), (4, 5), (2, 5)] [fa 46 0 1, fa 47 0 46, la 48 43 47, la 49 4 8, st 43 2 48, st 4 3 49])
 .ret)))))))
def rs293 : List AR := [.cell 2 true 43, .cell 3 true 4]
theorem ok293 : okF Tryz.prog 293 50 ac293 rs293 = true := by kernel_rfl
def ac294 : AC := (.seq (.reg [sm 2 (.h (.box (.t 0))), sm 3 (.h (.box (.t 1))), sm 4 (.h (.alloc [(.str .empty), zi6])), sm 5 (.p (.mov (.c zu3))), ⟨some 6, .p (.mov (.c (.str ⟨#[]⟩))), none⟩, sm 7 (.p (.mov (.c (.bool false))))])
 (.seq (.seq (.reg [sm 11 (.call 295 []), sm 12 (.p (.mov (.c zi6)))])
 (.block 0 (.loop (.seq (.reg [sm 13 (.p (.bin .lss (.t 12) (.c (.int .i64 3))))])
 (.seq (.cond (.t 13) .skip (.exit 0))
 (.seq (.block 1 (.seq (.reg [sm 14 (.v (.idx true 3 3 (.t 11) (.t 12))), sm 9 (.h (.alloc [zi6, (.bool false), .nilf])), st 3 9 14])
 (.seq (.reg [fa 15 0 9, ld 16 15, fa 17 1 3, ld 18 17, sm 19 (.p (.bin .eql (.t 16) (.t 18))), mv 20 19, ⟨some 21, .p (.fieldA 1 (.t 9)), (some (20, true))⟩, ⟨some 22, .h (.load false 1 (.t 21)), (some (20, true))⟩, ⟨some 23, .p (.fieldA 0 (.t 3)), (some (20, true))⟩, ⟨some 24, .h (.load false 1 (.t 23)), (some (20, true))⟩, ⟨some 25, .p (.beq false (.t 22) (.t 24)), (some (20, true))⟩, sm 26 (.p (.pick (.t 20) (.t 25) (.c (.bool false))))])
 (.cond (.t 26) (.seq (.reg [la 27 2 2, sm 28 (.v (.build [(.str .empty), zi6, zu3, (.str .empty)] [(0, 2, (.t 27))])), sm 29 (.h (.box (.t 28))), mv 10 29])
 (.seq (.reg [fa 30 2 9, ld 31 30, mv 32 10, fa 33 2 3, ld 34 33, sm 35 (.callv (.t 31) [(.t 32), (.t 34)])])
 (.seq (.draw 16 [(3, 12)] [mv 36 10, sm 37 (.p (.nilchk (.t 36))), fa 38 0 37, la 39 2 38, mv 40 10, sm 41 (.p (.nilchk (.t 40))), fa 42 2 41, ld 43 42, mv 44 10, sm 45 (.p (.nilchk (.t 44))), fa 46 3 45, ld 47 46, st 2 4 39, mv 5 43, mv 6 47, sm 7 (.p (.mov (.c (.bool true))))])
 .ret))) .skip))))
 (.reg [sm 48 (.p (.bin .add (.t 12) (.c (.int .i64 1)))), mv 12 48])))))))
 (.seq (.reg [la 49 2 2, st 2 4 49, sm 5 (.p (.mov (.c zu3))), ⟨some 6, .p (.mov (.c (.str ⟨#[]⟩))), none⟩, sm 7 (.p (.mov (.c (.bool false))))])
 .ret)))
def rs294 : List AR := [.cell 4 true 2, .tmp 5, .tmp 6, .tmp 7]
theorem ok294 : okF Tryz.prog 294 50 ac294 rs294 = true := by kernel_rfl
def ac295 : AC := (.seq (.reg [sm 0 (.h (.alloc [zi6, (.bool false), .nilf, zi6, (.bool false), .nilf, zi6, (.bool false), .nilf]))])
 (.seq (.reg [sm 1 (.v (.build [zi6, (.bool false), .nilf] [(0, 1, (.c (.int .i64 32))), (1, 1, (.c (.bool false))), (2, 1, (.c (.func 296 [])))])), sm 2 (.v (.build [zi6, (.bool false), .nilf] [(0, 1, (.c (.int .i64 33))), (1, 1, (.c (.bool true))), (2, 1, (.c (.func 297 [])))])), sm 3 (.v (.build [zi6, (.bool false), .nilf] [(0, 1, (.c (.int .i64 34))), (1, 1, (.c (.bool true))), (2, 1, (.c (.func 299 [])))])), sm 4 (.v (.build [zi6, (.bool false), .nilf, zi6, (.bool false), .nilf, zi6, (.bool false), .nilf] [(0, 3, (.t 1)), (3, 3, (.t 2)), (6, 3, (.t 3))])), st 9 0 4])
 .ret))
def rs295 : List AR := [.cell 0 true 9]
theorem ok295 : okF Tryz.prog 295 5 ac295 rs295 = true := by kernel_rfl
def ac296 : AC := (.reg [mv 4 0, mv 5 1, sm 6 (.p (.convw .u8 (.t 5))), sm 7 (.d (.bslice 1 1 [zu8] [(0, (.t 6))])), sm 8 (.d (.sl2s (.t 7))), sm 9 (.p (.nilchk (.t 4))), fa 10 3 9, st 1 10 8])
def rs296 : List AR := []
theorem ok296 : okF Tryz.prog 296 11 ac296 rs296 = true := by kernel_rfl
end Go.Proofs

