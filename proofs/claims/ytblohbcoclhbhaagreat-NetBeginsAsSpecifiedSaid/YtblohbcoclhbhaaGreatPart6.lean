/- Part of a proof about the given program: lemmas that the other parts use. -/
import Derived.Test.YtblohbcoclhbhaaGreatPart5
import Derived.KernelRfl

set_option linter.all false
set_option linter.unusedSimpArgs false
set_option linter.unusedVariables false
set_option maxRecDepth 1000000
set_option maxHeartbeats 0
namespace Go.Proofs
open Go Go.Eng
def fe2 : FE := { f := 2, N := 1, ac := ac2, rs := rs2 }
def fe3 : FE := { f := 3, N := 62, ac := ac3, rs := rs3 }
def fe4 : FE := { f := 4, N := 152, ac := ac4, rs := rs4 }
def fe5 : FE := { f := 5, N := 39, ac := ac5, rs := rs5 }
def fe6 : FE := { f := 6, N := 77, ac := ac6, rs := rs6, pub := true }
def fe7 : FE := { f := 7, N := 112, ac := ac7, rs := rs7, pub := true }
def fe8 : FE := { f := 8, N := 96, ac := ac8, rs := rs8 }
def fe9 : FE := { f := 9, N := 14, ac := ac9, rs := rs9, pub := true }
def fe10 : FE := { f := 10, N := 41, ac := ac10, rs := rs10, pub := true }
def fe11 : FE := { f := 11, N := 24, ac := ac11, rs := rs11, pub := true }
def fe12 : FE := { f := 12, N := 20, ac := ac12, rs := rs12 }
def fe13 : FE := { f := 13, N := 118, ac := ac13, rs := rs13 }
def fe14 : FE := { f := 14, N := 65, ac := ac14, rs := rs14, pub := true }
def fe15 : FE := { f := 15, N := 53, ac := ac15, rs := rs15, pub := true }
def fe16 : FE := { f := 16, N := 25, ac := ac16, rs := rs16 }
def fe17 : FE := { f := 17, N := 12, ac := ac17, rs := rs17 }
def fe18 : FE := { f := 18, N := 9, ac := ac18, rs := rs18 }
def fe19 : FE := { f := 19, N := 8, ac := ac19, rs := rs19 }
def fe20 : FE := { f := 20, N := 41, ac := ac20, rs := rs20, pub := true }
def fe21 : FE := { f := 21, N := 29, ac := ac21, rs := rs21, pub := true }
def fe22 : FE := { f := 22, N := 53, ac := ac22, rs := rs22 }
def fe23 : FE := { f := 23, N := 53, ac := ac23, rs := rs23 }
def fe24 : FE := { f := 24, N := 26, ac := ac24, rs := rs24 }
def fe25 : FE := { f := 25, N := 62, ac := ac25, rs := rs25 }
def fe26 : FE := { f := 26, N := 60, ac := ac26, rs := rs26 }
def fe27 : FE := { f := 27, N := 160, ac := ac27, rs := rs27 }
def fe28 : FE := { f := 28, N := 58, ac := ac28, rs := rs28 }
def fe29 : FE := { f := 29, N := 9, ac := ac29, rs := rs29 }
def fe30 : FE := { f := 30, N := 8, ac := ac30, rs := rs30 }
def fe31 : FE := { f := 31, N := 19, ac := ac31, rs := rs31 }
def fe32 : FE := { f := 32, N := 41, ac := ac32, rs := rs32 }
def fe33 : FE := { f := 33, N := 40, ac := ac33, rs := rs33, pub := true }
def fe34 : FE := { f := 34, N := 30, ac := ac34, rs := rs34, pub := true }
def fe35 : FE := { f := 35, N := 43, ac := ac35, rs := rs35, pub := true }
def fe36 : FE := { f := 36, N := 22, ac := ac36, rs := rs36, pub := true }
def fe37 : FE := { f := 37, N := 42, ac := ac37, rs := rs37, pub := true }
def fe38 : FE := { f := 38, N := 10, ac := ac38, rs := rs38 }
def fe39 : FE := { f := 39, N := 38, ac := ac39, rs := rs39 }
def fe40 : FE := { f := 40, N := 26, ac := ac40, rs := rs40 }
def fe41 : FE := { f := 41, N := 25, ac := ac41, rs := rs41, pub := true }
def fe42 : FE := { f := 42, N := 90, ac := ac42, rs := rs42 }
def fe43 : FE := { f := 43, N := 15, ac := ac43, rs := rs43 }
def fe44 : FE := { f := 44, N := 32, ac := ac44, rs := rs44 }
def fe45 : FE := { f := 45, N := 23, ac := ac45, rs := rs45, pub := true }
def fe46 : FE := { f := 46, N := 22, ac := ac46, rs := rs46 }
def fe47 : FE := { f := 47, N := 71, ac := ac47, rs := rs47 }
def fe48 : FE := { f := 48, N := 19, ac := ac48, rs := rs48 }
def fe49 : FE := { f := 49, N := 77, ac := ac49, rs := rs49 }
def fe50 : FE := { f := 50, N := 14, ac := ac50, rs := rs50, pub := true }
def fe51 : FE := { f := 51, N := 39, ac := ac51, rs := rs51, pub := true }
def fe52 : FE := { f := 52, N := 13, ac := ac52, rs := rs52 }
def fe53 : FE := { f := 53, N := 11, ac := ac53, rs := rs53, pub := true }
def fe54 : FE := { f := 54, N := 80, ac := ac54, rs := rs54 }
def fe55 : FE := { f := 55, N := 79, ac := ac55, rs := rs55 }
def fe56 : FE := { f := 56, N := 53, ac := ac56, rs := rs56, pub := true }
def fe57 : FE := { f := 57, N := 48, ac := ac57, rs := rs57 }
def fe58 : FE := { f := 58, N := 12, ac := ac58, rs := rs58 }
def fe59 : FE := { f := 59, N := 41, ac := ac59, rs := rs59 }
def fe60 : FE := { f := 60, N := 22, ac := ac60, rs := rs60 }
def fe61 : FE := { f := 61, N := 15, ac := ac61, rs := rs61 }
def fe62 : FE := { f := 62, N := 22, ac := ac62, rs := rs62 }
def fe63 : FE := { f := 63, N := 8, ac := ac63, rs := rs63 }
def fe64 : FE := { f := 64, N := 15, ac := ac64, rs := rs64 }
def fe65 : FE := { f := 65, N := 66, ac := ac65, rs := rs65 }
def fe66 : FE := { f := 66, N := 8, ac := ac66, rs := rs66 }
def fe67 : FE := { f := 67, N := 9, ac := ac67, rs := rs67 }
def fe68 : FE := { f := 68, N := 19, ac := ac68, rs := rs68 }
def fe69 : FE := { f := 69, N := 7, ac := ac69, rs := rs69 }
def fe70 : FE := { f := 70, N := 8, ac := ac70, rs := rs70 }
def fe71 : FE := { f := 71, N := 26, ac := ac71, rs := rs71 }
def fe72 : FE := { f := 72, N := 19, ac := ac72, rs := rs72 }
def fe73 : FE := { f := 73, N := 9, ac := ac73, rs := rs73 }
def fe74 : FE := { f := 74, N := 7, ac := ac74, rs := rs74 }
def fe75 : FE := { f := 75, N := 8, ac := ac75, rs := rs75, pub := true }
def fe76 : FE := { f := 76, N := 119, ac := ac76, rs := rs76 }
def fe77 : FE := { f := 77, N := 50, ac := ac77, rs := rs77 }
def fe78 : FE := { f := 78, N := 9, ac := ac78, rs := rs78 }
def fe79 : FE := { f := 79, N := 8, ac := ac79, rs := rs79 }
def fe80 : FE := { f := 80, N := 9, ac := ac80, rs := rs80 }
def fe81 : FE := { f := 81, N := 8, ac := ac81, rs := rs81 }
def fe82 : FE := { f := 82, N := 14, ac := ac82, rs := rs82 }
def fe83 : FE := { f := 83, N := 128, ac := ac83, rs := rs83, pub := true }
def fe84 : FE := { f := 84, N := 4, ac := ac84, rs := rs84 }
def fe85 : FE := { f := 85, N := 22, ac := ac85, rs := rs85 }
def fe86 : FE := { f := 86, N := 8, ac := ac86, rs := rs86 }
def fe87 : FE := { f := 87, N := 24, ac := ac87, rs := rs87 }
def fe88 : FE := { f := 88, N := 51, ac := ac88, rs := rs88 }
def fe89 : FE := { f := 89, N := 24, ac := ac89, rs := rs89 }
def fe90 : FE := { f := 90, N := 14, ac := ac90, rs := rs90, pub := true }
def fe91 : FE := { f := 91, N := 60, ac := ac91, rs := rs91, pub := true }
def fe92 : FE := { f := 92, N := 81, ac := ac92, rs := rs92, pub := true }
def fe93 : FE := { f := 93, N := 31, ac := ac93, rs := rs93 }
def fe94 : FE := { f := 94, N := 37, ac := ac94, rs := rs94 }
def fe95 : FE := { f := 95, N := 145, ac := ac95, rs := rs95, pub := true }
def fe96 : FE := { f := 96, N := 16, ac := ac96, rs := rs96 }
def fe97 : FE := { f := 97, N := 9, ac := ac97, rs := rs97 }
def fe98 : FE := { f := 98, N := 31, ac := ac98, rs := rs98 }
def fe99 : FE := { f := 99, N := 8, ac := ac99, rs := rs99 }
def fe100 : FE := { f := 100, N := 95, ac := ac100, rs := rs100 }
def fe101 : FE := { f := 101, N := 32, ac := ac101, rs := rs101 }
def fe102 : FE := { f := 102, N := 46, ac := ac102, rs := rs102, pub := true }
def fe103 : FE := { f := 103, N := 20, ac := ac103, rs := rs103 }
def fe104 : FE := { f := 104, N := 23, ac := ac104, rs := rs104, pub := true }
def fe105 : FE := { f := 105, N := 40, ac := ac105, rs := rs105, pub := true }
def fe106 : FE := { f := 106, N := 9, ac := ac106, rs := rs106 }
def fe107 : FE := { f := 107, N := 31, ac := ac107, rs := rs107, pub := true }
def fe108 : FE := { f := 108, N := 57, ac := ac108, rs := rs108, pub := true }
def fe109 : FE := { f := 109, N := 56, ac := ac109, rs := rs109, pub := true }
def fe110 : FE := { f := 110, N := 62, ac := ac110, rs := rs110 }
def fe111 : FE := { f := 111, N := 26, ac := ac111, rs := rs111, pub := true }
def fe112 : FE := { f := 112, N := 13, ac := ac112, rs := rs112 }
def fe113 : FE := { f := 113, N := 84, ac := ac113, rs := rs113 }
def fe114 : FE := { f := 114, N := 29, ac := ac114, rs := rs114 }
def fe115 : FE := { f := 115, N := 9, ac := ac115, rs := rs115 }
def fe116 : FE := { f := 116, N := 31, ac := ac116, rs := rs116 }
def fe117 : FE := { f := 117, N := 128, ac := ac117, rs := rs117, pub := true }
def fe118 : FE := { f := 118, N := 35, ac := ac118, rs := rs118 }
def fe119 : FE := { f := 119, N := 24, ac := ac119, rs := rs119 }
def fe120 : FE := { f := 120, N := 12, ac := ac120, rs := rs120, pub := true }
def fe121 : FE := { f := 121, N := 64, ac := ac121, rs := rs121 }
def fe122 : FE := { f := 122, N := 19, ac := ac122, rs := rs122 }
def fe123 : FE := { f := 123, N := 14, ac := ac123, rs := rs123 }
def fe124 : FE := { f := 124, N := 30, ac := ac124, rs := rs124, pub := true }
def fe125 : FE := { f := 125, N := 18, ac := ac125, rs := rs125 }
def fe126 : FE := { f := 126, N := 69, ac := acA126, rs := rs126, d := some { qs := qs126, x := 8, B := acB126, g := 141, N := 35, t := 4, ac := ac141 } }
def fe127 : FE := { f := 127, N := 14, ac := ac127, rs := rs127 }
def fe128 : FE := { f := 128, N := 36, ac := ac128, rs := rs128 }
def fe129 : FE := { f := 129, N := 12, ac := ac129, rs := rs129, pub := true }
def fe130 : FE := { f := 130, N := 35, ac := ac130, rs := rs130 }
def fe131 : FE := { f := 131, N := 19, ac := ac131, rs := rs131 }
def fe132 : FE := { f := 132, N := 24, ac := ac132, rs := rs132 }
def fe133 : FE := { f := 133, N := 41, ac := ac133, rs := rs133 }
def fe134 : FE := { f := 134, N := 16, ac := ac134, rs := rs134 }
def fe135 : FE := { f := 135, N := 7, ac := ac135, rs := rs135 }
def fe136 : FE := { f := 136, N := 8, ac := ac136, rs := rs136 }
def fe137 : FE := { f := 137, N := 24, ac := ac137, rs := rs137, pub := true }
def fe139 : FE := { f := 139, N := 16, ac := ac139, rs := rs139 }
def fe140 : FE := { f := 140, N := 5, ac := ac140, rs := rs140 }
def fe142 : FE := { f := 142, N := 22, ac := ac142, rs := rs142 }
def fe143 : FE := { f := 143, N := 16, ac := ac143, rs := rs143 }
def fe144 : FE := { f := 144, N := 60, ac := ac144, rs := rs144 }
def fe145 : FE := { f := 145, N := 15, ac := ac145, rs := rs145 }
def fe146 : FE := { f := 146, N := 66, ac := ac146, rs := rs146 }
def fe147 : FE := { f := 147, N := 3, ac := ac147, rs := rs147 }
def fe148 : FE := { f := 148, N := 109, ac := ac148, rs := rs148 }
def fe149 : FE := { f := 149, N := 31, ac := ac149, rs := rs149 }
def fe150 : FE := { f := 150, N := 14, ac := ac150, rs := rs150 }
def fe151 : FE := { f := 151, N := 15, ac := ac151, rs := rs151 }
def fe152 : FE := { f := 152, N := 100, ac := ac152, rs := rs152 }
def fe153 : FE := { f := 153, N := 40, ac := ac153, rs := rs153 }
def fe154 : FE := { f := 154, N := 12, ac := ac154, rs := rs154 }
def fe155 : FE := { f := 155, N := 50, ac := ac155, rs := rs155 }
def fe157 : FE := { f := 157, N := 34, ac := ac157, rs := rs157 }
def fe158 : FE := { f := 158, N := 66, ac := ac158, rs := rs158 }
def fe159 : FE := { f := 159, N := 9, ac := ac159, rs := rs159 }
def fe160 : FE := { f := 160, N := 21, ac := ac160, rs := rs160 }
def fe161 : FE := { f := 161, N := 44, ac := ac161, rs := rs161 }
def fe162 : FE := { f := 162, N := 48, ac := ac162, rs := rs162 }
def fe163 : FE := { f := 163, N := 52, ac := ac163, rs := rs163 }
def fe164 : FE := { f := 164, N := 66, ac := ac164, rs := rs164 }
def fe165 : FE := { f := 165, N := 31, ac := ac165, rs := rs165 }
def fe166 : FE := { f := 166, N := 45, ac := ac166, rs := rs166 }
def fe167 : FE := { f := 167, N := 27, ac := ac167, rs := rs167 }
def fe168 : FE := { f := 168, N := 33, ac := ac168, rs := rs168 }
def fe169 : FE := { f := 169, N := 36, ac := ac169, rs := rs169 }
def fe170 : FE := { f := 170, N := 9, ac := ac170, rs := rs170 }
def fe171 : FE := { f := 171, N := 149, ac := acA171, rs := rs171, d := some { qs := qs171, x := 17, B := acB171, g := 177, N := 18, t := 6, ac := ac177 }, pub := true }
def fe172 : FE := { f := 172, N := 32, ac := ac172, rs := rs172 }
def fe173 : FE := { f := 173, N := 21, ac := ac173, rs := rs173 }
def fe174 : FE := { f := 174, N := 24, ac := ac174, rs := rs174 }
def fe175 : FE := { f := 175, N := 26, ac := ac175, rs := rs175 }
def fe176 : FE := { f := 176, N := 3, ac := ac176, rs := rs176 }
def fe178 : FE := { f := 178, N := 6, ac := ac178, rs := rs178 }
def fe179 : FE := { f := 179, N := 15, ac := ac179, rs := rs179 }
def fe180 : FE := { f := 180, N := 15, ac := ac180, rs := rs180 }
def fe181 : FE := { f := 181, N := 10, ac := ac181, rs := rs181 }
def fe182 : FE := { f := 182, N := 20, ac := ac182, rs := rs182 }
def fe183 : FE := { f := 183, N := 5, ac := ac183, rs := rs183 }
def fe184 : FE := { f := 184, N := 8, ac := ac184, rs := rs184 }
def fe185 : FE := { f := 185, N := 8, ac := ac185, rs := rs185 }
def fe186 : FE := { f := 186, N := 9, ac := ac186, rs := rs186 }
def fe187 : FE := { f := 187, N := 8, ac := ac187, rs := rs187 }
def fe188 : FE := { f := 188, N := 8, ac := ac188, rs := rs188 }
def fe189 : FE := { f := 189, N := 8, ac := ac189, rs := rs189 }
def fe190 : FE := { f := 190, N := 8, ac := ac190, rs := rs190 }
def fe191 : FE := { f := 191, N := 8, ac := ac191, rs := rs191 }
def fe192 : FE := { f := 192, N := 9, ac := ac192, rs := rs192 }
def fe193 : FE := { f := 193, N := 9, ac := ac193, rs := rs193 }
def fe194 : FE := { f := 194, N := 8, ac := ac194, rs := rs194 }
def fe195 : FE := { f := 195, N := 12, ac := ac195, rs := rs195 }
def fe196 : FE := { f := 196, N := 11, ac := ac196, rs := rs196 }
def fe197 : FE := { f := 197, N := 10, ac := ac197, rs := rs197 }
def fe198 : FE := { f := 198, N := 8, ac := ac198, rs := rs198 }
def fe214 : FE := { f := 214, N := 70, ac := ac214, rs := rs214 }
def fe216 : FE := { f := 216, N := 28, ac := ac216, rs := rs216 }
def fe217 : FE := { f := 217, N := 42, ac := ac217, rs := rs217, pub := true }
def fe219 : FE := { f := 219, N := 13, ac := ac219, rs := rs219 }
def fe220 : FE := { f := 220, N := 12, ac := ac220, rs := rs220 }
def fe221 : FE := { f := 221, N := 15, ac := ac221, rs := rs221 }
def fe222 : FE := { f := 222, N := 23, ac := ac222, rs := rs222 }
def fe223 : FE := { f := 223, N := 22, ac := ac223, rs := rs223 }
def fe224 : FE := { f := 224, N := 28, ac := ac224, rs := rs224 }
def fe225 : FE := { f := 225, N := 45, ac := ac225, rs := rs225, pub := true }
def fe226 : FE := { f := 226, N := 48, ac := ac226, rs := rs226 }
def fe227 : FE := { f := 227, N := 43, ac := ac227, rs := rs227 }
def fe228 : FE := { f := 228, N := 36, ac := ac228, rs := rs228 }
def fe229 : FE := { f := 229, N := 50, ac := ac229, rs := rs229, pub := true }
def fe230 : FE := { f := 230, N := 50, ac := ac230, rs := rs230 }
def fe231 : FE := { f := 231, N := 5, ac := ac231, rs := rs231 }
def fe232 : FE := { f := 232, N := 11, ac := ac232, rs := rs232 }
def fe233 : FE := { f := 233, N := 6, ac := ac233, rs := rs233 }
def fe234 : FE := { f := 234, N := 33, ac := ac234, rs := rs234 }
def fe235 : FE := { f := 235, N := 14, ac := ac235, rs := rs235 }
def fe236 : FE := { f := 236, N := 43, ac := ac236, rs := rs236, pub := true }
def fe237 : FE := { f := 237, N := 98, ac := ac237, rs := rs237, pub := true }
def fe238 : FE := { f := 238, N := 14, ac := ac238, rs := rs238 }
def fe239 : FE := { f := 239, N := 14, ac := ac239, rs := rs239 }
def fe240 : FE := { f := 240, N := 151, ac := ac240, rs := rs240 }
def fe241 : FE := { f := 241, N := 73, ac := ac241, rs := rs241, pub := true }
def fe242 : FE := { f := 242, N := 32, ac := ac242, rs := rs242 }
def fe243 : FE := { f := 243, N := 31, ac := ac243, rs := rs243 }
def fe244 : FE := { f := 244, N := 38, ac := ac244, rs := rs244 }
def fe245 : FE := { f := 245, N := 48, ac := ac245, rs := rs245, pub := true }
def fe246 : FE := { f := 246, N := 34, ac := ac246, rs := rs246, pub := true }
def fe247 : FE := { f := 247, N := 85, ac := ac247, rs := rs247 }
def fe248 : FE := { f := 248, N := 63, ac := ac248, rs := rs248 }
def ntTbl : List FE := [fe2, fe3, fe4, fe5, fe6, fe7, fe8, fe9, fe10, fe11, fe12, fe13, fe14, fe15, fe16, fe17, fe18, fe19, fe20, fe21, fe22, fe23, fe24, fe25, fe26, fe27, fe28, fe29, fe30, fe31, fe32, fe33, fe34, fe35, fe36, fe37, fe38, fe39, fe40, fe41, fe42, fe43, fe44, fe45, fe46, fe47, fe48, fe49, fe50, fe51, fe52, fe53, fe54, fe55, fe56, fe57, fe58, fe59, fe60, fe61, fe62, fe63, fe64, fe65, fe66, fe67, fe68, fe69, fe70, fe71, fe72, fe73, fe74, fe75, fe76, fe77, fe78, fe79, fe80, fe81, fe82, fe83, fe84, fe85, fe86, fe87, fe88, fe89, fe90, fe91, fe92, fe93, fe94, fe95, fe96, fe97, fe98, fe99, fe100, fe101, fe102, fe103, fe104, fe105, fe106, fe107, fe108, fe109, fe110, fe111, fe112, fe113, fe114, fe115, fe116, fe117, fe118, fe119, fe120, fe121, fe122, fe123, fe124, fe125, fe126, fe127, fe128, fe129, fe130, fe131, fe132, fe133, fe134, fe135, fe136, fe137, fe139, fe140, fe142, fe143, fe144, fe145, fe146, fe147, fe148, fe149, fe150, fe151, fe152, fe153, fe154, fe155, fe157, fe158, fe159, fe160, fe161, fe162, fe163, fe164, fe165, fe166, fe167, fe168, fe169, fe170, fe171, fe172, fe173, fe174, fe175, fe176, fe178, fe179, fe180, fe181, fe182, fe183, fe184, fe185, fe186, fe187, fe188, fe189, fe190, fe191, fe192, fe193, fe194, fe195, fe196, fe197, fe198, fe214, fe216, fe217, fe219, fe220, fe221, fe222, fe223, fe224, fe225, fe226, fe227, fe228, fe229, fe230, fe231, fe232, fe233, fe234, fe235, fe236, fe237, fe238, fe239, fe240, fe241, fe242, fe243, fe244, fe245, fe246, fe247, fe248]
def ntRt : List RE := [⟨770, [42, 43], rfA770, rfB770⟩, ⟨910, [30], rfA910, rfB910⟩, ⟨2140, [15], rfA2140, rfB2140⟩]
theorem ntOk : okAll Tryz.prog ntTbl := ⟨ok2, ok3, ok4, ok5, ok6, ok7, ok8, ok9, ok10, ok11, ok12, ok13, ok14, ok15, ok16, ok17, ok18, ok19, ok20, ok21, ok22, ok23, ok24, ok25, ok26, ok27, ok28, ok29, ok30, ok31, ok32, ok33, ok34, ok35, ok36, ok37, ok38, ok39, ok40, ok41, ok42, ok43, ok44, ok45, ok46, ok47, ok48, ok49, ok50, ok51, ok52, ok53, ok54, ok55, ok56, ok57, ok58, ok59, ok60, ok61, ok62, ok63, ok64, ok65, ok66, ok67, ok68, ok69, ok70, ok71, ok72, ok73, ok74, ok75, ok76, ok77, ok78, ok79, ok80, ok81, ok82, ok83, ok84, ok85, ok86, ok87, ok88, ok89, ok90, ok91, ok92, ok93, ok94, ok95, ok96, ok97, ok98, ok99, ok100, ok101, ok102, ok103, ok104, ok105, ok106, ok107, ok108, ok109, ok110, ok111, ok112, ok113, ok114, ok115, ok116, ok117, ok118, ok119, ok120, ok121, ok122, ok123, ok124, ok125, ⟨ok126, ok141⟩, ok127, ok128, ok129, ok130, ok131, ok132, ok133, ok134, ok135, ok136, ok137, ok139, ok140, ok142, ok143, ok144, ok145, ok146, ok147, ok148, ok149, ok150, ok151, ok152, ok153, ok154, ok155, ok157, ok158, ok159, ok160, ok161, ok162, ok163, ok164, ok165, ok166, ok167, ok168, ok169, ok170, ⟨ok171, ok177⟩, ok172, ok173, ok174, ok175, ok176, ok178, ok179, ok180, ok181, ok182, ok183, ok184, ok185, ok186, ok187, ok188, ok189, ok190, ok191, ok192, ok193, ok194, ok195, ok196, ok197, ok198, ok214, ok216, ok217, ok219, ok220, ok221, ok222, ok223, ok224, ok225, ok226, ok227, ok228, ok229, ok230, ok231, ok232, ok233, ok234, ok235, ok236, ok237, ok238, ok239, ok240, ok241, ok242, ok243, ok244, ok245, ok246, ok247, ok248, trivial⟩
theorem rf77 : ac77.rfAll Tryz.prog := by
 simp only [ac77, AC.rfAll, true_and, and_true]
 exact ⟨at770, rfl, rfl⟩
theorem rf91 : ac91.rfAll Tryz.prog := by
 simp only [ac91, AC.rfAll, true_and, and_true]
 exact ⟨at910, rfl, rfl⟩
theorem rf214 : ac214.rfAll Tryz.prog := by
 simp only [ac214, AC.rfAll, true_and, and_true]
 exact ⟨at2140, rfl, rfl⟩
theorem ntRf : rfTbl Tryz.prog ntTbl := ⟨FE.rfAll_of rfl, FE.rfAll_of rfl, FE.rfAll_of rfl, FE.rfAll_of rfl, FE.rfAll_of rfl, FE.rfAll_of rfl, FE.rfAll_of rfl, FE.rfAll_of rfl, FE.rfAll_of rfl, FE.rfAll_of rfl, FE.rfAll_of rfl, FE.rfAll_of rfl, FE.rfAll_of rfl, FE.rfAll_of rfl, FE.rfAll_of rfl, FE.rfAll_of rfl, FE.rfAll_of rfl, FE.rfAll_of rfl, FE.rfAll_of rfl, FE.rfAll_of rfl, FE.rfAll_of rfl, FE.rfAll_of rfl, FE.rfAll_of rfl, FE.rfAll_of rfl, FE.rfAll_of rfl, FE.rfAll_of rfl, FE.rfAll_of rfl, FE.rfAll_of rfl, FE.rfAll_of rfl, FE.rfAll_of rfl, FE.rfAll_of rfl, FE.rfAll_of rfl, FE.rfAll_of rfl, FE.rfAll_of rfl, FE.rfAll_of rfl, FE.rfAll_of rfl, FE.rfAll_of rfl, FE.rfAll_of rfl, FE.rfAll_of rfl, FE.rfAll_of rfl, FE.rfAll_of rfl, FE.rfAll_of rfl, FE.rfAll_of rfl, FE.rfAll_of rfl, FE.rfAll_of rfl, FE.rfAll_of rfl, FE.rfAll_of rfl, FE.rfAll_of rfl, FE.rfAll_of rfl, FE.rfAll_of rfl, FE.rfAll_of rfl, FE.rfAll_of rfl, FE.rfAll_of rfl, FE.rfAll_of rfl, FE.rfAll_of rfl, FE.rfAll_of rfl, FE.rfAll_of rfl, FE.rfAll_of rfl, FE.rfAll_of rfl, FE.rfAll_of rfl, FE.rfAll_of rfl, FE.rfAll_of rfl, FE.rfAll_of rfl, FE.rfAll_of rfl, FE.rfAll_of rfl, FE.rfAll_of rfl, FE.rfAll_of rfl, FE.rfAll_of rfl, FE.rfAll_of rfl, FE.rfAll_of rfl, FE.rfAll_of rfl, FE.rfAll_of rfl, FE.rfAll_of rfl, FE.rfAll_of rfl, FE.rfAll_of rfl, ⟨rf77, trivial⟩, FE.rfAll_of rfl, FE.rfAll_of rfl, FE.rfAll_of rfl, FE.rfAll_of rfl, FE.rfAll_of rfl, FE.rfAll_of rfl, FE.rfAll_of rfl, FE.rfAll_of rfl, FE.rfAll_of rfl, FE.rfAll_of rfl, FE.rfAll_of rfl, FE.rfAll_of rfl, FE.rfAll_of rfl, ⟨rf91, trivial⟩, FE.rfAll_of rfl, FE.rfAll_of rfl, FE.rfAll_of rfl, FE.rfAll_of rfl, FE.rfAll_of rfl, FE.rfAll_of rfl, FE.rfAll_of rfl, FE.rfAll_of rfl, FE.rfAll_of rfl, FE.rfAll_of rfl, FE.rfAll_of rfl, FE.rfAll_of rfl, FE.rfAll_of rfl, FE.rfAll_of rfl, FE.rfAll_of rfl, FE.rfAll_of rfl, FE.rfAll_of rfl, FE.rfAll_of rfl, FE.rfAll_of rfl, FE.rfAll_of rfl, FE.rfAll_of rfl, FE.rfAll_of rfl, FE.rfAll_of rfl, FE.rfAll_of rfl, FE.rfAll_of rfl, FE.rfAll_of rfl, FE.rfAll_of rfl, FE.rfAll_of rfl, FE.rfAll_of rfl, FE.rfAll_of rfl, FE.rfAll_of rfl, FE.rfAll_of rfl, FE.rfAll_of rfl, FE.rfAll_of rfl, FE.rfAll_of rfl, FE.rfAll_of rfl, FE.rfAll_of rfl, FE.rfAll_of rfl, FE.rfAll_of rfl, FE.rfAll_of rfl, FE.rfAll_of rfl, FE.rfAll_of rfl, FE.rfAll_of rfl, FE.rfAll_of rfl, FE.rfAll_of rfl, FE.rfAll_of rfl, FE.rfAll_of rfl, FE.rfAll_of rfl, FE.rfAll_of rfl, FE.rfAll_of rfl, FE.rfAll_of rfl, FE.rfAll_of rfl, FE.rfAll_of rfl, FE.rfAll_of rfl, FE.rfAll_of rfl, FE.rfAll_of rfl, FE.rfAll_of rfl, FE.rfAll_of rfl, FE.rfAll_of rfl, FE.rfAll_of rfl, FE.rfAll_of rfl, FE.rfAll_of rfl, FE.rfAll_of rfl, FE.rfAll_of rfl, FE.rfAll_of rfl, FE.rfAll_of rfl, FE.rfAll_of rfl, FE.rfAll_of rfl, FE.rfAll_of rfl, FE.rfAll_of rfl, FE.rfAll_of rfl, FE.rfAll_of rfl, FE.rfAll_of rfl, FE.rfAll_of rfl, FE.rfAll_of rfl, FE.rfAll_of rfl, FE.rfAll_of rfl, FE.rfAll_of rfl, FE.rfAll_of rfl, FE.rfAll_of rfl, FE.rfAll_of rfl, FE.rfAll_of rfl, FE.rfAll_of rfl, FE.rfAll_of rfl, FE.rfAll_of rfl, FE.rfAll_of rfl, FE.rfAll_of rfl, FE.rfAll_of rfl, FE.rfAll_of rfl, FE.rfAll_of rfl, FE.rfAll_of rfl, FE.rfAll_of rfl, FE.rfAll_of rfl, FE.rfAll_of rfl, FE.rfAll_of rfl, FE.rfAll_of rfl, FE.rfAll_of rfl, FE.rfAll_of rfl, FE.rfAll_of rfl, FE.rfAll_of rfl, FE.rfAll_of rfl, FE.rfAll_of rfl, FE.rfAll_of rfl, ⟨rf214, trivial⟩, FE.rfAll_of rfl, FE.rfAll_of rfl, FE.rfAll_of rfl, FE.rfAll_of rfl, FE.rfAll_of rfl, FE.rfAll_of rfl, FE.rfAll_of rfl, FE.rfAll_of rfl, FE.rfAll_of rfl, FE.rfAll_of rfl, FE.rfAll_of rfl, FE.rfAll_of rfl, FE.rfAll_of rfl, FE.rfAll_of rfl, FE.rfAll_of rfl, FE.rfAll_of rfl, FE.rfAll_of rfl, FE.rfAll_of rfl, FE.rfAll_of rfl, FE.rfAll_of rfl, FE.rfAll_of rfl, FE.rfAll_of rfl, FE.rfAll_of rfl, FE.rfAll_of rfl, FE.rfAll_of rfl, FE.rfAll_of rfl, FE.rfAll_of rfl, FE.rfAll_of rfl, FE.rfAll_of rfl, FE.rfAll_of rfl, FE.rfAll_of rfl, FE.rfAll_of rfl, trivial⟩
theorem ntRt_ok : rtAll Tryz.prog ntRt := ⟨⟨at770, rfl, rfl⟩, ⟨at910, rfl, rfl⟩, ⟨at2140, rfl, rfl⟩, trivial⟩
end Go.Proofs

namespace Go.Proofs
open Go Go.Eng
set_option maxRecDepth 100000
set_option maxHeartbeats 4000000

def ctl (n : Int) : List AV := [I n, (.int .u32 0), (.int .u32 0), (.int .u32 0), (.int .u32 0), (.int .u32 0), (.int .u32 0), (.int .u32 0), (.int .u32 0), (.int .i64 0), (.int .i64 0), (.int .i64 0), (.int .i64 0), (.int .i64 0)]
def blk (d : AV) : List AV := [.int .u32 0, .int .u32 0, .int .i64 0, .int .i64 0, d, .nils]
def brd (n : Int) (d : AV) : List AV := [I n, (.int .u32 0), (.int .u32 0), (.int .u32 0), (.int .u32 0), (.int .u32 0), (.int .u32 0), (.int .u32 0), (.int .u32 0), (.int .i64 0), (.int .i64 0), (.int .i64 0), (.int .i64 0), (.int .i64 0), (.int .i64 0), (.bool false), (.bool false), (.bool false), (.bool false), (.int .i64 0), (.int .i64 0), (.int .i64 0), (.int .i64 0), (.int .i64 0), (.int .i64 0), (.int .i64 0), (.int .i64 0), (.str .empty), (.int .i64 0), (.int .u32 0), (.int .u32 0), (.int .i64 0), (.int .i64 0), d, .nils, (.int .u32 0), (.int .u32 0), (.int .u32 0), (.int .u32 0), (.int .i64 0), (.int .i64 0), (.int .i64 0), (.int .i64 0)]
def brd0 : List AV := [(.int .i64 0), (.int .u32 0), (.int .u32 0), (.int .u32 0), (.int .u32 0), (.int .u32 0), (.int .u32 0), (.int .u32 0), (.int .u32 0), (.int .i64 0), (.int .i64 0), (.int .i64 0), (.int .i64 0), (.int .i64 0), (.int .i64 0), (.bool false), (.bool false), (.bool false), (.bool false), (.int .i64 0), (.int .i64 0), (.int .i64 0), (.int .i64 0), (.int .i64 0), (.int .i64 0), (.int .i64 0), (.int .i64 0), (.str .empty), (.int .i64 0), (.int .u32 0), (.int .u32 0), (.int .i64 0), (.int .i64 0), .nils, .nils, (.int .u32 0), (.int .u32 0), (.int .u32 0), (.int .u32 0), (.int .i64 0), (.int .i64 0), (.int .i64 0), (.int .i64 0)]
def Im.dI (i : Im) : AV := if i.dn = 0 then .nils else .dslice i.dc i.dn none
def Im.dR (i : Im) : AV := .dslice i.dc i.dn none
theorem dI_data {i : Im} (h : i.ok) : noLoc i.dI = true := by
 unfold Im.dI; split
 · rfl
 · simp [noLoc, noLocL_of h.dd]
theorem dR_data {i : Im} (h : i.ok) : noLoc i.dR = true := by simp [Im.dR, noLoc, noLocL_of h.dd]
theorem c52 (n : Nat) (hn : 1 ≤ n ∧ n ≤ 4) : CallA Tryz.prog 52 [I n] Heap.nil fun v H' => v = .tuple [.agg (ctl n), I 0] ∧ H' = Heap.nil := by
 refine callA_of ok52 (Nat.le_of_ble_eq_true rfl) ?_
 repeat' ((conv => whnf); first | refine Branch.ofT rfl ?_ | refine Branch.ofF rfl ?_ | refine Branch.ofT (decide_eq_true (by omega)) ?_ | refine Branch.ofF (decide_eq_false (by omega)) ?_ | refine Branch.dec (fun h => ?_) (fun h => ?_) | refine Branch.negdec (fun h => ?_) (fun h => ?_) | refine Branch.neg (fun h => ?_) (fun h => ?_) | refine Branch.mk (fun h => ?_) (fun h => ?_) | (refine Side.mk ?_ ?_; · first | omega | decide) | (refine SideD.mk ?_ ?_; · first | omega | decide) | refine ⟨_, Nat.lt_succ_self _, To.refl (.inl ⟨rfl, ?_⟩)⟩ | (refine Side.mk ?_ ?_; · (simp; done)) | fail)
 all_goals (conv => whnf)
 exact RetA.data rfl ⟨rfl, rfl⟩
theorem c53 (i : Im) (h : i.ok) (hd : i.dn ≤ 64) : CallA Tryz.prog 53 [i.dR] Heap.nil fun v H' => v = .tuple [.agg (blk i.dI), I 0] ∧ H' = Heap.nil := by
 refine callA_of ok53 (Nat.le_of_ble_eq_true rfl) ?_
 have hl := h.dl
 have ht : List.take (i.dn * 128) i.dc = i.dc := List.take_of_length_le (by omega)
 by_cases h0 : i.dn = 0
 · have e : i.dI = .nils := by unfold Im.dI; rw [if_pos h0]
   rw [e]
   unfold Im.dR
   rw [h0] at ht ⊢
   repeat' ((conv => whnf); first | refine Branch.ofT rfl ?_ | refine Branch.ofF rfl ?_ | refine Branch.ofT (decide_eq_true (by omega)) ?_ | refine Branch.ofF (decide_eq_false (by omega)) ?_ | refine Branch.dec (fun h => ?_) (fun h => ?_) | refine Branch.negdec (fun h => ?_) (fun h => ?_) | refine Branch.neg (fun h => ?_) (fun h => ?_) | refine Branch.mk (fun h => ?_) (fun h => ?_) | (refine Side.mk ?_ ?_; · first | omega | decide) | (refine SideD.mk ?_ ?_; · first | omega | decide) | refine ⟨_, Nat.lt_succ_self _, To.refl (.inl ⟨rfl, ?_⟩)⟩ | refine Side.mk (by omega) ?_ | (refine Side.mk ?_ ?_; · (simp; done)) | fail)
   all_goals (conv => whnf)
   exact RetA.data rfl ⟨rfl, rfl⟩
 · have e : i.dI = .dslice i.dc i.dn none := by unfold Im.dI; rw [if_neg h0]
   rw [e]
   unfold Im.dR
   repeat' ((conv => whnf); first | refine Branch.ofT rfl ?_ | refine Branch.ofF rfl ?_ | refine Branch.ofT (decide_eq_true (by omega)) ?_ | refine Branch.ofF (decide_eq_false (by omega)) ?_ | refine Branch.dec (fun h => ?_) (fun h => ?_) | refine Branch.negdec (fun h => ?_) (fun h => ?_) | refine Branch.neg (fun h => ?_) (fun h => ?_) | refine Branch.mk (fun h => ?_) (fun h => ?_) | (refine Side.mk ?_ ?_; · first | omega | decide) | (refine SideD.mk ?_ ?_; · first | omega | decide) | refine ⟨_, Nat.lt_succ_self _, To.refl (.inl ⟨rfl, ?_⟩)⟩ | refine Side.mk (by omega) ?_ | refine Side.mk ⟨by unfold fits; omega, by rw [ht]; exact h.ds⟩ ?_ | (refine Side.mk ?_ ?_; · (simp; done)) | fail)
   all_goals (conv => whnf)
   refine RetA.pub 1 (ds := i.dc) (Eq.trans rfl (congrArg AB.cells ht)) h.dd ?_
   have e2 : AV.tuple [.agg (blk (.dslice ((i.dc.drop 0).take (i.dn * 128)) i.dn none)), I 0] = AV.tuple [.agg (blk (.dslice i.dc i.dn none)), I 0] := by
    rw [List.drop_zero, ht]
   exact RetA.data (v := AV.tuple [.agg (blk (.dslice ((i.dc.drop 0).take (i.dn * 128)) i.dn none)), I 0]) (by rw [e2]; simp [blk, noLoc, noLocL, noLocL_of h.dd]) ⟨e2, rfl⟩
theorem c34 (i : Im) (n : Nat) (h : i.ok) (hd : i.dn ≤ 64) (hn : 1 ≤ n ∧ n ≤ 4) : CallA Tryz.prog 34 [I n, i.dR] Heap.nil fun v H' => v = .tuple [.agg (brd n i.dI), I 0] ∧ H' = Heap.nil := by
 refine callA_of ok34 (Nat.le_of_ble_eq_true rfl) ?_
 have h52 := c52 n hn
 have h53 := c53 i h hd
 have hR := dR_data h
 have hdn : i.dR = .dslice i.dc i.dn none := rfl
 have hc := noLocL_of h.dd
 rw [hdn] at hR h53 ⊢
 by_cases h0 : i.dn = 0
 · have e : i.dI = .nils := by unfold Im.dI; rw [if_pos h0]
   rw [e] at h53 ⊢
   repeat' ((conv => whnf); first | refine Branch.ofT rfl ?_ | refine Branch.ofF rfl ?_ | refine Branch.dec (fun h => ?_) (fun h => ?_) | refine Branch.negdec (fun h => ?_) (fun h => ?_) | refine Branch.neg (fun h => ?_) (fun h => ?_) | refine Branch.mk (fun h => ?_) (fun h => ?_) | (refine Side.mk ?_ ?_; · first | omega | decide) | (refine SideD.mk ?_ ?_; · first | omega | decide) | refine ⟨_, Nat.lt_succ_self _, To.refl (.inl ⟨rfl, ?_⟩)⟩ | refine CallA.pure h52 rfl rfl ?_ | refine CallA.pure h53 (by simp [noLocL, hR]) (by simp [noLoc, noLocL, blk]) ?_ | (refine Side.mk ?_ ?_; · (simp; done)) | fail)
   all_goals (conv => whnf)
   exact RetA.data (v := .tuple [.agg (brd n .nils), I 0]) rfl ⟨rfl, rfl⟩
 · have e : i.dI = .dslice i.dc i.dn none := by unfold Im.dI; rw [if_neg h0]
   rw [e] at h53 ⊢
   repeat' ((conv => whnf); first | refine Branch.ofT rfl ?_ | refine Branch.ofF rfl ?_ | refine Branch.dec (fun h => ?_) (fun h => ?_) | refine Branch.negdec (fun h => ?_) (fun h => ?_) | refine Branch.neg (fun h => ?_) (fun h => ?_) | refine Branch.mk (fun h => ?_) (fun h => ?_) | (refine Side.mk ?_ ?_; · first | omega | decide) | (refine SideD.mk ?_ ?_; · first | omega | decide) | refine ⟨_, Nat.lt_succ_self _, To.refl (.inl ⟨rfl, ?_⟩)⟩ | refine CallA.pure h52 rfl rfl ?_ | refine CallA.pure h53 (by simp [noLocL, hR]) (by simp [noLoc, noLocL, blk, hc]) ?_ | (refine Side.mk ?_ ?_; · (simp; done)) | fail)
   all_goals (conv => whnf)
   exact RetA.data (v := .tuple [.agg (brd n (.dslice i.dc i.dn none)), I 0]) (by simp [noLoc, noLocL, brd, hc]) ⟨rfl, rfl⟩
theorem c55 (n : Nat) (hn : n = 1 ∨ n = 2 ∨ n = 3 ∨ n = 4) : CallA Tryz.prog 55 [.agg (ctl n)] Heap.nil fun v H' => v = .bool true ∧ H' = Heap.nil := by
 rcases hn with rfl | rfl | rfl | rfl
 · exact CallA.computedR noOv_ok ntOk ntRf ntRt_ok 1000 60 (by kernel_rfl)
 · exact CallA.computedR noOv_ok ntOk ntRf ntRt_ok 1000 60 (by kernel_rfl)
 · exact CallA.computedR noOv_ok ntOk ntRf ntRt_ok 1000 60 (by kernel_rfl)
 · exact CallA.computedR noOv_ok ntOk ntRf ntRt_ok 1000 60 (by kernel_rfl)
theorem c36 (i : Im) (n : Nat) (h : i.ok) (hd : i.dn ≤ 64) (hn : n = 1 ∨ n = 2 ∨ n = 3 ∨ n = 4) : CallA Tryz.prog 36 [I n, i.dR] Heap.nil fun v H' => v = .agg (brd n i.dR ++ [.nils, I 0]) ∧ H' = Heap.nil := by
 refine callA_of ok36 (Nat.le_of_ble_eq_true rfl) ?_
 have h55 := c55 n hn
 have hdn : i.dR = .dslice i.dc i.dn none := rfl
 have hc := noLocL_of h.dd
 rw [hdn]
 repeat' ((conv => whnf); first | refine Branch.ofT rfl ?_ | refine Branch.ofF rfl ?_ | refine Branch.ofT (decide_eq_true (by omega)) ?_ | refine Branch.ofF (decide_eq_false (by omega)) ?_ | refine Branch.dec (fun h => ?_) (fun h => ?_) | refine Branch.negdec (fun h => ?_) (fun h => ?_) | refine Branch.neg (fun h => ?_) (fun h => ?_) | refine Branch.mk (fun h => ?_) (fun h => ?_) | (refine Side.mk ?_ ?_; · first | omega | decide) | (refine SideD.mk ?_ ?_; · first | omega | decide) | refine ⟨_, Nat.lt_succ_self _, To.refl (.inl ⟨rfl, ?_⟩)⟩ | refine CallA.pure h55 rfl rfl ?_ | (refine Side.mk ?_ ?_; · (simp; done)) | fail)
 all_goals (conv => whnf)
 exact RetA.data (v := .agg (brd n (.dslice i.dc i.dn none) ++ [.nils, I 0])) (by simp [noLoc, noLocL, brd, hc]) ⟨rfl, rfl⟩
end Go.Proofs

namespace Go.Proofs
open Go Go.Eng
set_option maxRecDepth 100000
set_option maxHeartbeats 4000000

def m0 : List AV := [.nils, .nils, (.int .i64 0), (.int .u32 0), (.int .u32 0), (.int .u32 0), (.int .u32 0), (.int .u32 0), (.int .u32 0), (.int .u32 0), (.int .u32 0), (.int .i64 0), (.int .i64 0), (.int .i64 0), (.int .i64 0), (.int .i64 0), (.int .i64 0), (.bool false), (.bool false), (.bool false), (.bool false), (.int .i64 0), (.int .i64 0), (.int .i64 0), (.int .i64 0), (.int .i64 0), (.int .i64 0), (.int .i64 0), (.int .i64 0), (.str .empty), (.int .i64 0), (.int .u32 0), (.int .u32 0), (.int .i64 0), (.int .i64 0), .nils, .nils, (.int .u32 0), (.int .u32 0), (.int .u32 0), (.int .u32 0), (.int .i64 0), (.int .i64 0), (.int .i64 0), (.int .i64 0), .nils, (.int .i64 0)]
def t73 (e : Int) : List AV := [(.int .i64 0), (.bool false), (.int .u32 0), (.int .u32 0), (.int .u32 0), (.int .u32 0), (.int .u32 0), (.int .u32 0), (.int .u32 0), (.int .u32 0), (.int .u32 0), (.int .u32 0), (.int .u32 0), (.int .u32 0), (.int .u32 0), (.int .u32 0), (.int .u32 0), (.int .u32 0), (.int .u32 0), (.int .u32 0), (.int .u32 0), (.int .u32 0), (.int .u32 0), (.int .u32 0), (.int .u32 0), (.int .u32 0), (.int .u32 0), (.int .u32 0), (.bool false), (.bool false), (.bool false), (.int .i64 0), (.int .u32 0), (.int .u32 0), (.int .u32 0), (.int .u32 0), (.int .u32 0), (.int .u32 0), (.int .u32 0), (.int .u32 0), (.int .u32 0), (.int .u32 0), (.int .u32 0), (.int .u32 0), (.int .u32 0), (.int .u32 0), (.int .u32 0), (.int .u32 0), (.int .u32 0), (.int .u32 0), (.int .u32 0), (.int .u32 0), (.int .u32 0), (.int .u32 0), (.int .u32 0), (.int .u32 0), (.int .u32 0), (.int .u32 0), (.bool false), (.bool false), (.bool false), (.int .i64 0), (.int .u32 0), .nils, .nils, (.bool false), (.bool false), (.int .i64 0), (.int .u32 0), (.int .i64 0), (.int .u32 0), (.int .i64 0), I e]
def mch (i : Im) (n : Nat) (d : AV) : List AV := .dslice (cpus i.e n) n none :: memC i i.sg.length :: (brd n d ++ [.nils, I 0])
theorem mch_data {i : Im} {n : Nat} {d : AV} (h : noLoc d = true) : noLocL (mch i n d) = true := by
 simp [mch, brd, noLocL, noLoc, noLocL_of (cpus_noLoc _ _), memC_data i i.sg.length _ List.mem_cons_self, h]
def okN (n : Int) : Prop := 1 ≤ n ∧ n ≤ 4
theorem c20e (i : Im) (n : Int) (h : i.ok) (hc : i.chk ≠ 0) : CallA Tryz.prog 20 [i.av, I n] Heap.nil fun v H' => v = .tuple [.agg m0, I i.chk] ∧ H' = Heap.nil := by
 refine callA_of ok20 (Nat.le_of_ble_eq_true rfl) ?_
 have h32 := c32e i n h hc
 have hl := Im.noLoc h
 repeat' ((conv => whnf); first | refine Branch.ofT rfl ?_ | refine Branch.ofF rfl ?_ | refine Branch.negdec (fun _ => ?_) (fun hn => absurd hn hc) | refine Branch.dec (fun h => ?_) (fun h => ?_) | refine Branch.negdec (fun h => ?_) (fun h => ?_) | refine Branch.neg (fun h => ?_) (fun h => ?_) | refine Branch.mk (fun h => ?_) (fun h => ?_) | (refine Side.mk ?_ ?_; · first | omega | decide) | (refine SideD.mk ?_ ?_; · first | omega | decide) | refine ⟨_, Nat.lt_succ_self _, To.refl (.inl ⟨rfl, ?_⟩)⟩ | refine CallA.pure h32 (by simp [noLocL, hl, noLoc]) rfl ?_ | (refine Side.mk ?_ ?_; · (simp; done)) | fail)
 all_goals (conv => whnf)
 exact RetA.data rfl ⟨rfl, rfl⟩
theorem c20n (i : Im) (n : Int) (h : i.ok) (hc : i.chk = 0) (hn : n < 1 ∨ n > 4) : CallA Tryz.prog 20 [i.av, I n] Heap.nil fun v H' => v = .tuple [.agg m0, I 1] ∧ H' = Heap.nil := by
 refine callA_of ok20 (Nat.le_of_ble_eq_true rfl) ?_
 have h32 := c32n i n h hc hn
 have hl := Im.noLoc h
 repeat' ((conv => whnf); first | refine Branch.ofT rfl ?_ | refine Branch.ofF rfl ?_ | refine Branch.dec (fun h => ?_) (fun h => ?_) | refine Branch.negdec (fun h => ?_) (fun h => ?_) | refine Branch.neg (fun h => ?_) (fun h => ?_) | refine Branch.mk (fun h => ?_) (fun h => ?_) | (refine Side.mk ?_ ?_; · first | omega | decide) | (refine SideD.mk ?_ ?_; · first | omega | decide) | refine ⟨_, Nat.lt_succ_self _, To.refl (.inl ⟨rfl, ?_⟩)⟩ | refine CallA.pure h32 (by simp [noLocL, hl, noLoc]) rfl ?_ | (refine Side.mk ?_ ?_; · (simp; done)) | fail)
 all_goals (conv => whnf)
 exact RetA.data rfl ⟨rfl, rfl⟩
theorem c20 (i : Im) (n : Nat) (h : i.ok) (hc : i.chk = 0) (hn : n = 1 ∨ n = 2 ∨ n = 3 ∨ n = 4) : CallA Tryz.prog 20 [i.av, I n] Heap.nil fun v H' => v = .tuple [.agg (mch i n i.dI), I 0] ∧ H' = Heap.nil := by
 refine callA_of ok20 (Nat.le_of_ble_eq_true rfl) ?_
 have h32 := c32 i n h hc hn
 have h33 := c33 i h hc
 have h34 := c34 i n h (chk0 hc).2.2.1 (by omega)
 have hl := Im.noLoc h
 have hR := dR_data h
 have hI := dI_data h
 have hcp := noLocL_of (cpus_noLoc i.e n)
 have hme := memC_data i i.sg.length _ List.mem_cons_self
 have hmd := mch_data (i := i) (n := n) hI
 obtain ⟨md, mx, mk, hmc, hmn⟩ : ∃ md mx mk, memC i i.sg.length = .dslice md mx mk ∧ noLocL md = true := ⟨_, _, _, rfl, noLocL_of (by simp [noLoc])⟩
 have hdn : i.dR = .dslice i.dc i.dn none := rfl
 rw [hdn] at h34 hR
 unfold mch at hmd ⊢
 rw [hmc] at h33 hmd hme ⊢
 have hm2 : noLocL md = true := hmn
 have hd2 := noLocL_of h.dd
 by_cases h0 : i.dn = 0
 · have e : i.dI = .nils := by unfold Im.dI; rw [if_pos h0]
   rw [e] at h34 hmd hI ⊢
   repeat' ((conv => whnf); first | refine Branch.ofT rfl ?_ | refine Branch.ofF rfl ?_ | refine Branch.dec (fun h => ?_) (fun h => ?_) | refine Branch.negdec (fun h => ?_) (fun h => ?_) | refine Branch.neg (fun h => ?_) (fun h => ?_) | refine Branch.mk (fun h => ?_) (fun h => ?_) | (refine Side.mk ?_ ?_; · first | omega | decide) | (refine SideD.mk ?_ ?_; · first | omega | decide) | refine ⟨_, Nat.lt_succ_self _, To.refl (.inl ⟨rfl, ?_⟩)⟩ | refine CallA.pure h32 (by simp [noLocL, hl, noLoc]) (by simp [noLoc, noLocL, hcp]) ?_ | refine CallA.pure h33 (by simp [noLocL, hl, noLoc]) (by simp [noLoc, noLocL, hm2]) ?_ | refine CallA.pure h34 (by simp [noLocL, hR, noLoc]) (by simp [noLoc, noLocL, brd]) ?_ | (refine Side.mk ?_ ?_; · (simp; done)) | fail)
   all_goals (conv => whnf)
   exact RetA.data (v := .tuple [.agg (.dslice (cpus i.e n) n none :: .dslice md mx mk :: (brd n .nils ++ [.nils, I 0])), I 0]) (by simp only [noLoc] at hmd ⊢; rw [noLocL, noLoc, hmd]; rfl) ⟨rfl, rfl⟩
 · have e : i.dI = .dslice i.dc i.dn none := by unfold Im.dI; rw [if_neg h0]
   rw [e] at h34 hmd hI ⊢
   repeat' ((conv => whnf); first | refine Branch.ofT rfl ?_ | refine Branch.ofF rfl ?_ | refine Branch.dec (fun h => ?_) (fun h => ?_) | refine Branch.negdec (fun h => ?_) (fun h => ?_) | refine Branch.neg (fun h => ?_) (fun h => ?_) | refine Branch.mk (fun h => ?_) (fun h => ?_) | (refine Side.mk ?_ ?_; · first | omega | decide) | (refine SideD.mk ?_ ?_; · first | omega | decide) | refine ⟨_, Nat.lt_succ_self _, To.refl (.inl ⟨rfl, ?_⟩)⟩ | refine CallA.pure h32 (by simp [noLocL, hl, noLoc]) (by simp [noLoc, noLocL, hcp]) ?_ | refine CallA.pure h33 (by simp [noLocL, hl, noLoc]) (by simp [noLoc, noLocL, hm2]) ?_ | refine CallA.pure h34 (by simp [noLocL, hR, noLoc]) (by simp [noLoc, noLocL, brd, hd2]) ?_ | (refine Side.mk ?_ ?_; · (simp; done)) | fail)
   all_goals (conv => whnf)
   exact RetA.data (v := .tuple [.agg (.dslice (cpus i.e n) n none :: .dslice md mx mk :: (brd n (.dslice i.dc i.dn none) ++ [.nils, I 0])), I 0]) (by simp only [noLoc] at hmd ⊢; rw [noLocL, noLoc, hmd]; rfl) ⟨rfl, rfl⟩
end Go.Proofs

namespace Go.Proofs
open Go Go.Eng
set_option maxRecDepth 100000
set_option maxHeartbeats 4000000

theorem c21e (i : Im) (n : Int) (h : i.ok) (hc : i.chk ≠ 0) : CallA Tryz.prog 21 [i.av, I n] Heap.nil fun v H' => v = .agg (m0 ++ t73 i.chk) ∧ H' = Heap.nil := by
 refine callA_of ok21 (Nat.le_of_ble_eq_true rfl) ?_
 have h35 := c35e i n h hc
 have hl := Im.noLoc h
 repeat' ((conv => whnf); first | refine Branch.ofT rfl ?_ | refine Branch.ofF rfl ?_ | refine Branch.negdec (fun _ => ?_) (fun hn => absurd hn hc) | refine Branch.dec (fun h => ?_) (fun h => ?_) | refine Branch.negdec (fun h => ?_) (fun h => ?_) | refine Branch.neg (fun h => ?_) (fun h => ?_) | refine Branch.mk (fun h => ?_) (fun h => ?_) | (refine Side.mk ?_ ?_; · first | omega | decide) | (refine SideD.mk ?_ ?_; · first | omega | decide) | refine ⟨_, Nat.lt_succ_self _, To.refl (.inl ⟨rfl, ?_⟩)⟩ | refine CallA.pure h35 (by simp [noLocL, hl, noLoc]) rfl ?_ | (refine Side.mk ?_ ?_; · (simp; done)) | fail)
 all_goals (conv => whnf)
 exact RetA.data rfl ⟨rfl, rfl⟩
theorem c21n (i : Im) (n : Int) (h : i.ok) (hc : i.chk = 0) (hn : n < 1 ∨ n > 4) : CallA Tryz.prog 21 [i.av, I n] Heap.nil fun v H' => v = .agg (m0 ++ t73 1) ∧ H' = Heap.nil := by
 refine callA_of ok21 (Nat.le_of_ble_eq_true rfl) ?_
 have h35 := c35n i n h hc hn
 have hl := Im.noLoc h
 repeat' ((conv => whnf); first | refine Branch.ofT rfl ?_ | refine Branch.ofF rfl ?_ | refine Branch.dec (fun h => ?_) (fun h => ?_) | refine Branch.negdec (fun h => ?_) (fun h => ?_) | refine Branch.neg (fun h => ?_) (fun h => ?_) | refine Branch.mk (fun h => ?_) (fun h => ?_) | (refine Side.mk ?_ ?_; · first | omega | decide) | (refine SideD.mk ?_ ?_; · first | omega | decide) | refine ⟨_, Nat.lt_succ_self _, To.refl (.inl ⟨rfl, ?_⟩)⟩ | refine CallA.pure h35 (by simp [noLocL, hl, noLoc]) rfl ?_ | (refine Side.mk ?_ ?_; · (simp; done)) | fail)
 all_goals (conv => whnf)
 exact RetA.data rfl ⟨rfl, rfl⟩
theorem c21 (i : Im) (n : Nat) (h : i.ok) (hc : i.chk = 0) (hn : n = 1 ∨ n = 2 ∨ n = 3 ∨ n = 4) : CallA Tryz.prog 21 [i.av, I n] Heap.nil fun v H' => v = .agg (mch i n i.dR ++ t73 0) ∧ H' = Heap.nil := by
 refine callA_of ok21 (Nat.le_of_ble_eq_true rfl) ?_
 have h35 := c35 i n h hc hn
 have h37 := c37 i h hc
 have h36 := c36 i n h (chk0 hc).2.2.1 hn
 have hl := Im.noLoc h
 have hR := dR_data h
 have hcp := noLocL_of (cpus_noLoc i.e n)
 have hd2 := noLocL_of h.dd
 have hmd := mch_data (i := i) (n := n) hR
 obtain ⟨md, mx, mk, hmc, hm2⟩ : ∃ md mx mk, memC i i.sg.length = .dslice md mx mk ∧ noLocL md = true := ⟨_, _, _, rfl, noLocL_of (by simp [noLoc])⟩
 have hdn : i.dR = .dslice i.dc i.dn none := rfl
 unfold mch at hmd ⊢
 rw [hmc] at h37 hmd ⊢
 rw [hdn] at h36 hR hmd ⊢
 generalize hcc : cpus i.e n = cc at *
 repeat' ((conv => whnf); first | refine Branch.ofT rfl ?_ | refine Branch.ofF rfl ?_ | refine Branch.dec (fun h => ?_) (fun h => ?_) | refine Branch.negdec (fun h => ?_) (fun h => ?_) | refine Branch.neg (fun h => ?_) (fun h => ?_) | refine Branch.mk (fun h => ?_) (fun h => ?_) | (refine Side.mk ?_ ?_; · first | omega | decide) | (refine SideD.mk ?_ ?_; · first | omega | decide) | refine ⟨_, Nat.lt_succ_self _, To.refl (.inl ⟨rfl, ?_⟩)⟩ | refine CallA.pure h35 (by simp [noLocL, hl, noLoc]) (by simp [noLoc, noLocL, hcp]) ?_ | refine CallA.pure h36 (by simp [noLocL, hR, noLoc]) (by simp [noLoc, noLocL, brd, hd2]) ?_ | refine QCallA.of h37 (by simp [noLocL, hl, noLoc]) (by simp [noLoc, noLocL, hm2]) ?_ | (refine Side.mk ?_ ?_; · (simp; done)) | fail)
 all_goals (conv => whnf)
 exact RetA.data (v := .agg (.dslice cc n none :: .dslice md mx mk :: (brd n (.dslice i.dc i.dn none) ++ [.nils, I 0]) ++ t73 0)) (by simp [noLoc, noLocL, hcp, hm2, hd2, brd, t73]) ⟨rfl, rfl⟩
end Go.Proofs

namespace Go.Eng
open Go
variable [Globs]

namespace BT
variable {α β : Type}
def mapT (f : α → β) : BT α → BT β
 | nil => nil
 | node v l r => node (match v with
  | some x => some (f x)
  | none => none) (mapT f l) (mapT f r)
theorem get_mapT (f : α → β) : ∀ (t : BT α) (n : Nat), (mapT f t).get n = (t.get n).map f
 | nil, n => by simp [mapT, get]
 | node v l r, 0 => by cases v <;> rfl
 | node v l r, n + 1 => by
  simp only [mapT, get]
  cases Nat.beq (Nat.mod n 2) 0 <;> simp only [cond_true, cond_false]
  · exact get_mapT f r _
  · exact get_mapT f l _
end BT
def pubT (k : Nat) (ds : List AV) (T : EH) : Option EH := EH.put ⟨T.nx, BT.mapT (pubB k ds) T.bs⟩ k .dead
theorem pubT_rep {k : Nat} {ds : List AV} {T T' : EH} {H : Heap} (h : pubT k ds T = some T') (R : RepH T H) : RepH T' (pubH k ds H) := by
 have h0 : ∀ j, EH.get ⟨T.nx, BT.mapT (pubB k ds) T.bs⟩ j = pubB k ds (T.get j) := fun j => by
  simp only [EH.get, BT.get_mapT]
  cases T.bs.get j <;> rfl
 have R0 : RepH ⟨T.nx, BT.mapT (pubB k ds) T.bs⟩ ⟨H.nx, pubBs k ds H.bs⟩ := by
  refine ⟨R.nx, funext fun j => ?_, fun j => ?_⟩
  · rw [h0, ← R.get]; exact pubBs_get j H.bs
  · have e : Heap.get ⟨H.nx, pubBs k ds H.bs⟩ j = pubB k ds (H.get j) := pubBs_get j H.bs
    rw [e]
    have := R.noit j
    cases hg : H.get j <;> simp [pubB, AB.noit]
    rw [hg] at this; exact this.elim
 exact R0.put h
theorem CallA.pubG {P : Program} {f : FuncId} {args : List AV} {H : Heap} {K : AV → Heap → Prop} (k : Nat) {ds : List AV} (hk : H.get k = .cells ds) (hdata : ∀ c ∈ ds, noLoc c = true) (h : CallA P f (pubL k ds args) (pubH k ds H) K) : CallA P f args H K := by
 refine ⟨h.ok, fun M μ w vs R hv => ?_⟩
 obtain ⟨M', R', hV, G⟩ := R.pub k hk hdata
 have hl : ∀ {cs : List AV} {us : List Value}, relL M cs μ us → relL M' (pubL k ds cs) μ us := by
  intro cs
  induction cs with
  | nil => intro us h; simpa only [pubL, relL] using h
  | cons c cs ih => intro us h; simp only [pubL, relL] at h ⊢; obtain ⟨v, r, h1, h2, h3⟩ := h; exact ⟨v, r, h1, hV c v h2, ih h3⟩
 exact (h.run M' μ w vs R' (hl hv)).mono fun e w' ⟨v, M2, μ2, H2, c, h1, h2, h3, ⟨h4, h5, h6⟩, h7⟩ => ⟨v, M2, μ2, H2, c, h1, h2, h3, ⟨h4, (G H.nx).trans h5, h6⟩, h7⟩
def pubGs : List Nat → List AV → EH → Option (List AV × EH)
 | [], vs, T => some (vs, T)
 | k :: ks, vs, T => match T.get k with
  | .cells ds => bif noLocL ds then (match pubT k ds T with
   | some T' => pubGs ks (pubL k ds vs) T'
   | none => none) else pubGs ks vs T
  | _ => pubGs ks vs T
theorem pubGs_run {P : Program} : ∀ {ks : List Nat} {vs vs' : List AV} {T T' : EH} {H : Heap}, pubGs ks vs T = some (vs', T') → RepH T H → ∃ H', RepH T' H' ∧ ∀ (f : FuncId) (K : AV → Heap → Prop), CallA P f vs' H' K → CallA P f vs H K
 | [], vs, vs', T, T', H, h, R => by simp only [pubGs] at h; cases h; exact ⟨H, R, fun _ _ h => h⟩
 | k :: ks, vs, vs', T, T', H, h, R => by
  simp only [pubGs] at h
  split at h
  · rename_i ds hg
    cases hb : noLocL ds <;> simp only [hb, cond_true, cond_false] at h
    · exact pubGs_run h R
    · split at h
      · rename_i T1 h1
        obtain ⟨H', R', hK⟩ := pubGs_run h (pubT_rep h1 R)
        exact ⟨H', R', fun f K hk => CallA.pubG k (by rw [R.get]; exact hg) (noLocL_all hb) (hK f K hk)⟩
      · cases h
  · exact pubGs_run h R
def inLocs (T : EH) : List AV → List Nat
 | [] => []
 | .ptr k _ :: r => (match T.get k with
  | .cells cs => List.foldr (locsV 4) (inLocs T r) cs
  | _ => inLocs T r)
 | _ :: r => inLocs T r
def ovG (l : List Nat) (inner ov : CallE) : CallE := fun f vs T => bif l.any (Nat.beq f) then (match pubGs (inLocs T vs) vs T with
 | some (vs', T') => inner f vs' T'
 | none => none) else ov f vs T
theorem ovG_ok {P : Program} {l : List Nat} {inner ov : CallE} (hi : CallOK P inner) (ho : CallOK P ov) : CallOK P (ovG l inner ov) := ⟨fun f vs T r T' h H R => by
 unfold ovG at h
 cases hb : l.any (Nat.beq f) <;> simp only [hb, cond_true, cond_false] at h
 · exact ho.ok _ _ _ _ _ h H R
 · split at h
   · rename_i vs' T1 h1
     obtain ⟨H1, R1, hK⟩ := pubGs_run (P := P) h1 R
     obtain ⟨H2, R2, hK2⟩ := hi.ok _ _ _ _ _ h H1 R1
     exact ⟨H2, R2, fun K hk => hK f K (hK2 K hk)⟩
   · cases h⟩
end Go.Eng

namespace Go.Proofs
open Go Go.Eng
set_option maxRecDepth 100000
set_option maxHeartbeats 4000000

structure Im.raw (i : Im) : Prop where
 e : -9223372036854775808 ≤ i.e ∧ i.e ≤ 9223372036854775807
 p : -9223372036854775808 ≤ i.p ∧ i.p ≤ 9223372036854775807
 a : ∀ x ∈ i.sg, -9223372036854775808 ≤ x.a ∧ x.a ≤ 9223372036854775807
 z : ∀ x ∈ i.sg, x.s.size ≤ 9223372036854775807
 n : i.sg.length ≤ 9223372036854775807 ∧ i.dn ≤ 9223372036854775807
 dl : i.dc.length = 128 * i.dn
 ds : ∀ c ∈ i.dc, scal c = true
 dd : ∀ c ∈ i.dc, Eng.noLoc c = true
theorem Im.raw.noLoc {i : Im} (h : i.raw) : Eng.noLoc i.av = true := by
 simp [Im.av, Go.Eng.noLoc, noLocL, sgc_noLocL, noLocL_of h.dd]
theorem imc_raw {i : Im} (h : i.raw) : dataB (imc i) := by
 have := Im.raw.noLoc h
 simp only [Im.av, noLoc] at this
 exact noLocL_all this
def fsum : List Sg → Int → Int
 | [], a => a
 | x :: r, a => fsum r (IntKind.i64.wrap (a + x.s.size))
theorem fsum_snoc (x : Sg) : ∀ (l : List Sg) (a : Int), fsum (l ++ [x]) a = IntKind.i64.wrap (fsum l a + x.s.size)
 | [], _ => rfl
 | y :: r, a => by simp only [List.cons_append, fsum]; exact fsum_snoc x r _
theorem fsum_take {l : List Sg} {k : Nat} (h : k < l.length) : fsum (l.take (k + 1)) 0 = IntKind.i64.wrap (fsum (l.take k) 0 + (l[k]).s.size) := by
 rw [List.take_succ, List.getElem?_eq_getElem h]; exact fsum_snoc _ _ _
def few (i : Im) : Bool := decide (fsum (i.sg.take 80) 0 ≤ 12000 ∧ i.sg.length ≤ 80 ∧ i.dn ≤ 80)
def Im.ok_of {i : Im} (h : i.raw) (hf : few i = true) : i.ok := by
 have hf := of_decide_eq_true hf
 exact ⟨h.e, h.p, h.a, h.z, by omega, h.dl, h.ds, h.dd⟩
theorem sz_at {l : List Sg} {i off : Nat} {a : Int} {s : ByteArray} {K : AV → Prop} (h : i < l.length) (hx : l[i] = ⟨a, s⟩) (ho : off = 2 * i) (hk : K (.str s)) : nthK 0 (((sgc l).drop off).drop 1) K := by
 rw [sgc_at h ho, hx]; exact hk
def L5 (i : Im) (m : Nat) (fr : Fr) (H : Heap) : Prop := ∃ k : Nat, k ≤ i.sg.length ∧ k ≤ 80 ∧ m = i.sg.length - k ∧ fr = [(1, .ptr 0 0), (3, I (fsum (i.sg.take k) 0)), (4, I k)] ∧ H = ⟨1, [(0, imc i)]⟩
theorem c5 (i : Im) (h : i.raw) : CallA Tryz.prog 5 [i.av] Heap.nil fun v H' => v = .bool (few i) ∧ H' = Heap.nil := by
 refine callA_of ok5 (Nat.le_of_ble_eq_true rfl) ?_
 have hn := h.n
 repeat' ((conv => whnf); first | refine Branch.ofT rfl ?_ | refine Branch.ofF rfl ?_ | refine Branch.ofT (decide_eq_true (by omega)) ?_ | refine Branch.ofF (decide_eq_false (by omega)) ?_ | refine Branch.dec (fun h => ?_) (fun h => ?_) | refine Branch.negdec (fun h => ?_) (fun h => ?_) | refine Branch.neg (fun h => ?_) (fun h => ?_) | refine Branch.mk (fun h => ?_) (fun h => ?_) | (refine Side.mk ?_ ?_; · first | omega | decide) | (refine SideD.mk ?_ ?_; · first | omega | decide) | refine ⟨_, Nat.lt_succ_self _, To.refl (.inl ⟨rfl, ?_⟩)⟩ | (refine Side.mk ?_ ?_; · (simp; done)) | fail)
 all_goals (conv => whnf)
 refine ⟨L5 i, i.sg.length, To.gc [(0, true)] [1, 3, 4] rfl ⟨imc_raw h, trivial⟩ ⟨0, by omega, by omega, by omega, rfl, rfl⟩, ?_⟩
 rintro m fr H ⟨k, hk, hk8, rfl, rfl, rfl⟩
 by_cases hkl : k < i.sg.length ∧ k < 80
 · obtain ⟨hkl, hk80⟩ := hkl
   have hst := fsum_take hkl
   generalize hx : i.sg[k] = x at hst
   obtain ⟨a, s⟩ := x
   simp only at hst
   have hi : IntKind.i64.wrap ((k : Int) + 1) = ((k + 1 : Nat) : Int) := wrapI (by omega)
   generalize hA : fsum (i.sg.take k) 0 = A at hst
   repeat' ((conv => whnf); first | refine Branch.ofT rfl ?_ | refine Branch.ofF rfl ?_ | refine Branch.ofT (decide_eq_true (by omega)) ?_ | refine Branch.ofF (decide_eq_false (by omega)) ?_ | refine Branch.dec (fun h => ?_) (fun h => ?_) | refine Branch.negdec (fun h => ?_) (fun h => ?_) | refine Branch.neg (fun h => ?_) (fun h => ?_) | refine Branch.mk (fun h => ?_) (fun h => ?_) | (refine Side.mk ?_ ?_; · first | omega | decide) | (refine SideD.mk ?_ ?_; · first | omega | decide) | refine ⟨_, Nat.lt_succ_self _, To.refl (.inl ⟨rfl, ?_⟩)⟩ | refine sz_at hkl hx (by omega) ?_ | (refine Side.mk ?_ ?_; · (simp; done)) | fail)
   all_goals (conv => whnf)
   exact ⟨i.sg.length - (k + 1), by omega, To.gc [(0, true)] [1, 3, 4] rfl ⟨imc_raw h, trivial⟩ ⟨k + 1, by omega, by omega, rfl, by rw [hst, ← hi]; rfl, rfl⟩⟩
 · have ht : i.sg.take k = i.sg.take 80 := by
    rcases Nat.lt_or_ge k i.sg.length with h1 | h1
    · rw [show k = 80 by omega]
    · rw [List.take_of_length_le h1, List.take_of_length_le (by omega)]
   rw [ht]
   generalize hA : fsum (i.sg.take 80) 0 = A
   have hfw : few i = decide (A ≤ 12000 ∧ i.sg.length ≤ 80 ∧ i.dn ≤ 80) := by unfold few; rw [hA]
   rw [hfw]
   repeat' ((conv => whnf); first | refine Branch.ofT rfl ?_ | refine Branch.ofF rfl ?_ | refine Branch.ofT (decide_eq_true (by omega)) ?_ | refine Branch.ofF (decide_eq_false (by omega)) ?_ | refine Branch.dec (fun h => ?_) (fun h => ?_) | refine Branch.negdec (fun h => ?_) (fun h => ?_) | refine Branch.neg (fun h => ?_) (fun h => ?_) | refine Branch.mk (fun h => ?_) (fun h => ?_) | (refine Side.mk ?_ ?_; · first | omega | decide) | (refine SideD.mk ?_ ?_; · first | omega | decide) | refine ⟨_, Nat.lt_succ_self _, To.refl (.inl ⟨rfl, ?_⟩)⟩ | (refine Side.mk ?_ ?_; · (simp; done)) | fail)
   all_goals (conv => whnf)
   all_goals (refine RetA.data rfl ⟨?_, rfl⟩; simp only [Eng.one, AV.bool.injEq]; first | (symm; apply decide_eq_false; omega) | (rw [decide_eq_decide]; omega))
end Go.Proofs

namespace Go.Proofs
open Go Go.Eng
set_option maxRecDepth 100000
set_option maxHeartbeats 4000000

theorem RetA.weak {n : Nat} {K : AV → Heap → Prop} {v v' : AV} {H : Heap} (hw : ∀ M μ x, relV M v μ x → relV M v' μ x) (h : RetA n K v' H) : RetA n K v H := by
 obtain ⟨v2, H2, hi, hk⟩ := h.ex
 refine ⟨v2, H2, fun N M μ w tmps R F hn => hi N M μ w tmps R ⟨F.glob, F.size, fun t => ?_⟩ hn, hk⟩
 have := F.slot t
 cases t with
 | zero => exact hw _ _ _ this
 | succ t => exact this
theorem wk_nil (M : Mem) (μ : Pos) (x : Value) (h : relV M .nils μ x) : relV M (.dslice [] 0 none) μ x := by
 simp only [relV] at h
 subst h
 simp [relV]
structure Wr where
 (a b : Int)
def Wr.ok (w : Wr) : Prop := (-9223372036854775808 ≤ w.a ∧ w.a ≤ 9223372036854775807) ∧ (-9223372036854775808 ≤ w.b ∧ w.b ≤ 9223372036854775807)
def wc : List Wr → List AV
 | [] => []
 | w :: r => I w.a :: I w.b :: wc r
theorem wc_len : ∀ l : List Wr, (wc l).length = 2 * l.length
 | [] => rfl
 | x :: r => by simp [wc, wc_len r]; omega
theorem wc_noLoc : ∀ l : List Wr, ∀ c ∈ wc l, noLoc c = true
 | [], _, h => by cases h
 | x :: r, c, h => by
  simp only [wc, List.mem_cons] at h
  rcases h with rfl | rfl | h
  · rfl
  · rfl
  · exact wc_noLoc r c h
theorem wc_scal : ∀ l : List Wr, ∀ c ∈ wc l, scal c = true
 | [], _, h => by cases h
 | x :: r, c, h => by
  simp only [wc, List.mem_cons] at h
  rcases h with rfl | rfl | h
  · rfl
  · rfl
  · exact wc_scal r c h
theorem wc_at : ∀ {l : List Wr} {i off : Nat} (h : i < l.length) (ho : off = 2 * i), (wc l).drop off = I (l[i]).a :: I (l[i]).b :: wc (l.drop (i + 1))
 | x :: r, 0, _, _, rfl => rfl
 | x :: r, i + 1, off, h, ho => by
  subst ho
  have := wc_at (l := r) (i := i) (off := 2 * i) (by simpa using h) rfl
  rw [show 2 * (i + 1) = 2 * i + 1 + 1 by omega]
  simpa [wc] using this
theorem wtk {l : List Wr} {i off : Nat} {a b : Int} {K : List AV → Prop} (h : i < l.length) (hx : l[i] = ⟨a, b⟩) (ho : off = 2 * i) (hk : K [I a, I b]) : takeK 2 ((wc l).drop off) K := by
 rw [takeK_eq _ _ _ (by rw [List.length_drop, wc_len]; omega), wc_at h ho, hx]; exact hk
def wrg (n : Nat) (w : Wr) : Bool := decide (w.a < 0 ∨ (n : Int) ≤ w.a ∨ w.b < 0 ∨ (n : Int) ≤ w.b ∨ w.a = w.b)
theorem c17 (k : Int) (n : Nat) {b : Bool} (h : decide (0 ≤ k ∧ k < n) = b) : CallA Tryz.prog 17 [I k, I n] Heap.nil fun v H' => v = .bool b ∧ H' = Heap.nil := by
 subst h
 refine callA_of ok17 (Nat.le_of_ble_eq_true rfl) ?_
 repeat' ((conv => whnf); first | refine Branch.ofT rfl ?_ | refine Branch.ofF rfl ?_ | refine Branch.dec (fun h => ?_) (fun h => ?_) | refine Branch.negdec (fun h => ?_) (fun h => ?_) | refine Branch.neg (fun h => ?_) (fun h => ?_) | refine Branch.mk (fun h => ?_) (fun h => ?_) | (refine Side.mk ?_ ?_; · first | omega | decide) | (refine SideD.mk ?_ ?_; · first | omega | decide) | refine ⟨_, Nat.lt_succ_self _, To.refl (.inl ⟨rfl, ?_⟩)⟩ | (refine Side.mk ?_ ?_; · (simp; done)) | fail)
 all_goals (conv => whnf)
 all_goals (refine RetA.data rfl ⟨?_, rfl⟩; simp only [Eng.one, AV.bool.injEq]; first | (symm; apply decide_eq_false; omega) | (rw [decide_eq_decide]; omega))
abbrev HI (cs : List AV) (n : Nat) : Heap := ⟨1, [(0, .cells [.dslice cs n none])]⟩
theorem CallA.same {P : Program} {f : FuncId} {args : List AV} {r : AV} {H : Heap} {K : AV → Heap → Prop} (h : CallA P f args H fun v H' => v = r ∧ H' = H) (hk : K r H) : CallA P f args H K :=
 h.mono fun v H' hv => by rw [hv.1, hv.2]; exact hk
theorem c16 (cs : List AV) (n : Nat) (w : Wr) {b : Bool} (hd : noLocL cs = true) (hb : wrg n w = b) : CallA Tryz.prog 16 [.agg [I w.a, I w.b], .ptr 0 0] (HI cs n) fun v H' => v = .bool b ∧ H' = HI cs n := by
 subst hb
 obtain ⟨x, y⟩ := w
 have hdd : ∀ c ∈ [AV.dslice cs n none], noLoc c = true := dat (by simp [noLoc, hd])
 refine callA_of ok16 (Nat.le_of_ble_eq_true rfl) ?_
 by_cases h1 : 0 ≤ x ∧ x < n
 · have h17 := c17 x n (decide_eq_true h1)
   by_cases h2 : 0 ≤ y ∧ y < n
   · have h18 := c17 y n (decide_eq_true h2)
     repeat' ((conv => whnf); first | refine Branch.ofT rfl ?_ | refine Branch.ofF rfl ?_ | refine Branch.ofT (decide_eq_true (by omega)) ?_ | refine Branch.ofF (decide_eq_false (by omega)) ?_ | refine Branch.dec (fun h => ?_) (fun h => ?_) | refine Branch.negdec (fun h => ?_) (fun h => ?_) | refine Branch.neg (fun h => ?_) (fun h => ?_) | refine Branch.mk (fun h => ?_) (fun h => ?_) | (refine Side.mk ?_ ?_; · first | omega | decide) | (refine SideD.mk ?_ ?_; · first | omega | decide) | refine ⟨_, Nat.lt_succ_self _, To.refl (.inl ⟨rfl, ?_⟩)⟩ | refine CallA.pure h17 rfl rfl ?_ | refine CallA.pure h18 rfl rfl ?_ | (refine Side.mk ?_ ?_; · (simp; done)) | fail)
     all_goals (conv => whnf)
     all_goals (refine RetA.gc [(0, true)] rfl ⟨hdd, trivial⟩ ⟨?_, rfl⟩; simp only [Eng.one, ren, AV.bool.injEq, wrg]; first | (rw [decide_eq_decide]; omega) | (symm; apply decide_eq_true; omega))
   · have h18 := c17 y n (decide_eq_false h2)
     repeat' ((conv => whnf); first | refine Branch.ofT rfl ?_ | refine Branch.ofF rfl ?_ | refine Branch.ofT (decide_eq_true (by omega)) ?_ | refine Branch.ofF (decide_eq_false (by omega)) ?_ | refine Branch.dec (fun h => ?_) (fun h => ?_) | refine Branch.negdec (fun h => ?_) (fun h => ?_) | refine Branch.neg (fun h => ?_) (fun h => ?_) | refine Branch.mk (fun h => ?_) (fun h => ?_) | (refine Side.mk ?_ ?_; · first | omega | decide) | (refine SideD.mk ?_ ?_; · first | omega | decide) | refine ⟨_, Nat.lt_succ_self _, To.refl (.inl ⟨rfl, ?_⟩)⟩ | refine CallA.pure h17 rfl rfl ?_ | refine CallA.pure h18 rfl rfl ?_ | (refine Side.mk ?_ ?_; · (simp; done)) | fail)
     all_goals (conv => whnf)
     all_goals (refine RetA.gc [(0, true)] rfl ⟨hdd, trivial⟩ ⟨?_, rfl⟩; simp only [Eng.one, ren, AV.bool.injEq, wrg]; symm; apply decide_eq_true; omega)
 · have h17 := c17 x n (decide_eq_false h1)
   repeat' ((conv => whnf); first | refine Branch.ofT rfl ?_ | refine Branch.ofF rfl ?_ | refine Branch.ofT (decide_eq_true (by omega)) ?_ | refine Branch.ofF (decide_eq_false (by omega)) ?_ | refine Branch.dec (fun h => ?_) (fun h => ?_) | refine Branch.negdec (fun h => ?_) (fun h => ?_) | refine Branch.neg (fun h => ?_) (fun h => ?_) | refine Branch.mk (fun h => ?_) (fun h => ?_) | (refine Side.mk ?_ ?_; · first | omega | decide) | (refine SideD.mk ?_ ?_; · first | omega | decide) | refine ⟨_, Nat.lt_succ_self _, To.refl (.inl ⟨rfl, ?_⟩)⟩ | refine CallA.pure h17 rfl rfl ?_ | (refine Side.mk ?_ ?_; · (simp; done)) | fail)
   all_goals (conv => whnf)
   all_goals (refine RetA.gc [(0, true)] rfl ⟨hdd, trivial⟩ ⟨?_, rfl⟩; simp only [Eng.one, ren, AV.bool.injEq, wrg]; symm; apply decide_eq_true; omega)
end Go.Proofs

namespace Go.Proofs
open Go Go.Eng
set_option maxRecDepth 100000
set_option maxHeartbeats 4000000
theorem any_at {l : List Wr} {n k : Nat} (h : k < l.length) : (l.drop k).any (wrg n) = (wrg n l[k] || (l.drop (k + 1)).any (wrg n)) := by
 rw [List.drop_eq_getElem_cons h]; rfl
def L31 (ws : List Wr) (cs : List AV) (n : Nat) (m : Nat) (fr : Fr) (H : Heap) : Prop := ∃ k : Nat, k ≤ ws.length ∧ m = ws.length - k ∧ ws.any (wrg n) = (ws.drop k).any (wrg n) ∧ fr = [(0, .dslice (wc ws) ws.length none), (1, .func 16 [.ptr 0 0]), (7, I ws.length), (8, I k)] ∧ H = HI cs n
theorem c31 (ws : List Wr) (cs : List AV) (n : Nat) (hd : noLocL cs = true) (hl : ws.length ≤ 1000) : CallA Tryz.prog 31 [.dslice (wc ws) ws.length none, .func 16 [.ptr 0 0]] (HI cs n) fun v H' => (∃ j : Int, v = I j ∧ (decide (j ≥ 0) = ws.any (wrg n))) ∧ H' = HI cs n := by
 have hdd : ∀ c ∈ [AV.dslice cs n none], noLoc c = true := dat (by simp [noLoc, hd])
 refine callA_of ok31 (Nat.le_of_ble_eq_true rfl) ?_
 repeat' ((conv => whnf); first | refine Branch.ofT rfl ?_ | refine Branch.ofF rfl ?_ | refine Branch.ofT (decide_eq_true (by omega)) ?_ | refine Branch.ofF (decide_eq_false (by omega)) ?_ | refine Branch.dec (fun h => ?_) (fun h => ?_) | refine Branch.negdec (fun h => ?_) (fun h => ?_) | refine Branch.neg (fun h => ?_) (fun h => ?_) | refine Branch.mk (fun h => ?_) (fun h => ?_) | (refine Side.mk ?_ ?_; · first | omega | decide) | (refine SideD.mk ?_ ?_; · first | omega | decide) | refine ⟨_, Nat.lt_succ_self _, To.refl (.inl ⟨rfl, ?_⟩)⟩ | (refine Side.mk ?_ ?_; · (simp; done)) | fail)
 all_goals (conv => whnf)
 refine ⟨L31 ws cs n, ws.length, To.gc [(0, true)] [0, 1, 7, 8] rfl ⟨hdd, trivial⟩ ⟨0, by omega, by omega, by rw [List.drop_zero], rfl, rfl⟩, ?_⟩
 rintro m fr H ⟨k, hk, rfl, ha, rfl, rfl⟩
 by_cases hkl : k < ws.length
 · rw [any_at hkl] at ha
   generalize hx : ws[k] = x at ha
   cases hb : wrg n x with
   | true =>
    have h16 := c16 cs n x hd hb
    obtain ⟨a, b⟩ := x
    repeat' ((conv => whnf); first | refine Branch.ofT rfl ?_ | refine Branch.ofF rfl ?_ | refine Branch.ofT (decide_eq_true (by omega)) ?_ | refine Branch.ofF (decide_eq_false (by omega)) ?_ | refine Branch.dec (fun h => ?_) (fun h => ?_) | refine Branch.negdec (fun h => ?_) (fun h => ?_) | refine Branch.neg (fun h => ?_) (fun h => ?_) | refine Branch.mk (fun h => ?_) (fun h => ?_) | (refine Side.mk ?_ ?_; · first | omega | decide) | (refine SideD.mk ?_ ?_; · first | omega | decide) | refine ⟨_, Nat.lt_succ_self _, To.refl (.inl ⟨rfl, ?_⟩)⟩ | refine wtk hkl hx (by omega) ?_ | refine CallA.same h16 ?_ | (refine Side.mk ?_ ?_; · (simp; done)) | fail)
    all_goals (conv => whnf)
    exact RetA.gc [(0, true)] rfl ⟨hdd, trivial⟩ ⟨⟨_, rfl, by rw [ha, hb]; exact decide_eq_true (by omega)⟩, rfl⟩
   | false =>
    have h16 := c16 cs n x hd hb
    obtain ⟨a, b⟩ := x
    repeat' ((conv => whnf); first | refine Branch.ofT rfl ?_ | refine Branch.ofF rfl ?_ | refine Branch.ofT (decide_eq_true (by omega)) ?_ | refine Branch.ofF (decide_eq_false (by omega)) ?_ | refine Branch.dec (fun h => ?_) (fun h => ?_) | refine Branch.negdec (fun h => ?_) (fun h => ?_) | refine Branch.neg (fun h => ?_) (fun h => ?_) | refine Branch.mk (fun h => ?_) (fun h => ?_) | (refine Side.mk ?_ ?_; · first | omega | decide) | (refine SideD.mk ?_ ?_; · first | omega | decide) | refine ⟨_, Nat.lt_succ_self _, To.refl (.inl ⟨rfl, ?_⟩)⟩ | refine wtk hkl hx (by omega) ?_ | refine CallA.same h16 ?_ | (refine Side.mk ?_ ?_; · (simp; done)) | fail)
    all_goals (conv => whnf)
    rw [hb, Bool.false_or] at ha
    exact ⟨ws.length - (k + 1), by omega, To.gc [(0, true)] [0, 1, 7, 8] rfl ⟨hdd, trivial⟩ ⟨k + 1, by omega, rfl, ha, rfl, rfl⟩⟩
 · have hkl : k = ws.length := by omega
   subst hkl
   rw [List.drop_eq_nil_of_le (Nat.le_refl _)] at ha
   repeat' ((conv => whnf); first | refine Branch.ofT rfl ?_ | refine Branch.ofF rfl ?_ | refine Branch.ofT (decide_eq_true (by omega)) ?_ | refine Branch.ofF (decide_eq_false (by omega)) ?_ | refine Branch.dec (fun h => ?_) (fun h => ?_) | refine Branch.negdec (fun h => ?_) (fun h => ?_) | refine Branch.neg (fun h => ?_) (fun h => ?_) | refine Branch.mk (fun h => ?_) (fun h => ?_) | (refine Side.mk ?_ ?_; · first | omega | decide) | (refine SideD.mk ?_ ?_; · first | omega | decide) | refine ⟨_, Nat.lt_succ_self _, To.refl (.inl ⟨rfl, ?_⟩)⟩ | (refine Side.mk ?_ ?_; · (simp; done)) | fail)
   all_goals (conv => whnf)
   exact RetA.gc [(0, true)] rfl ⟨hdd, trivial⟩ ⟨⟨_, rfl, by rw [ha]; rfl⟩, rfl⟩
theorem c18 (ws : List Wr) (cs : List AV) (n : Nat) (hd : noLocL cs = true) (hl : ws.length ≤ 1000) : CallA Tryz.prog 18 [.dslice (wc ws) ws.length none, .func 16 [.ptr 0 0]] (HI cs n) fun v H' => v = .bool (ws.any (wrg n)) ∧ H' = HI cs n := by
 have hdd : ∀ c ∈ [AV.dslice cs n none], noLoc c = true := dat (by simp [noLoc, hd])
 refine callA_of ok18 (Nat.le_of_ble_eq_true rfl) ?_
 have h31 := c31 ws cs n hd hl
 (conv => whnf)
 refine h31.mono ?_
 rintro _ _ ⟨⟨j, rfl, hj⟩, rfl⟩
 rw [← hj]
 repeat' ((conv => whnf); first | refine Branch.ofT rfl ?_ | refine Branch.ofF rfl ?_ | refine Branch.dec (fun h => ?_) (fun h => ?_) | refine Branch.negdec (fun h => ?_) (fun h => ?_) | refine Branch.neg (fun h => ?_) (fun h => ?_) | refine Branch.mk (fun h => ?_) (fun h => ?_) | (refine Side.mk ?_ ?_; · first | omega | decide) | (refine SideD.mk ?_ ?_; · first | omega | decide) | refine ⟨_, Nat.lt_succ_self _, To.refl (.inl ⟨rfl, ?_⟩)⟩ | (refine Side.mk ?_ ?_; · (simp; done)) | fail)
 all_goals (conv => whnf)
 exact RetA.gc [(0, true)] rfl ⟨hdd, trivial⟩ ⟨rfl, rfl⟩
theorem wc_nil {A : List Wr} (h : A.length = 0) : wc A = [] := by
 cases A with
 | nil => rfl
 | cons x r => cases h
theorem wtake (A : List Wr) : (wc A).take (A.length * 2) = wc A := by rw [Nat.mul_comm, ← wc_len, List.take_length]
theorem c19 (A : List Wr) (hl : A.length ≤ 1000) : CallA Tryz.prog 19 [.dslice (wc A) A.length none] Heap.nil fun v H' => v = .dslice (wc A) A.length none ∧ H' = Heap.nil := by
 have ht := wtake A
 have hln : A.length * 2 ≤ (wc A).length := by rw [wc_len]; omega
 refine callA_of ok19 (Nat.le_of_ble_eq_true rfl) ?_
 repeat' ((conv => whnf); first | refine Branch.ofT rfl ?_ | refine Branch.ofF rfl ?_ | refine Branch.dec (fun h => ?_) (fun h => ?_) | refine Branch.negdec (fun h => ?_) (fun h => ?_) | refine Branch.neg (fun h => ?_) (fun h => ?_) | refine Branch.mk (fun h => ?_) (fun h => ?_) | (refine Side.mk ?_ ?_; · first | omega | decide) | (refine SideD.mk ?_ ?_; · first | omega | decide) | refine ⟨_, Nat.lt_succ_self _, To.refl (.inl ⟨rfl, ?_⟩)⟩ | refine Unk.mk (fun h => ?_) ?_ | refine Side.mk hln ?_ | refine Side.mk ⟨rfl, rfl, rfl, by unfold fits; omega, fun c hc => wc_scal A c (List.mem_of_mem_take hc)⟩ ?_ | (refine Side.mk ?_ ?_; · (simp; done)) | fail)
 all_goals (conv => whnf)
 · refine RetA.weak (v' := .dslice [] 0 none) wk_nil (RetA.data rfl ⟨?_, rfl⟩)
   rw [wc_nil h, h]
 · refine RetA.pub 1 rfl (fun c hc => ?_) (RetA.data rfl ⟨?_, rfl⟩)
   · rw [ht] at hc; exact wc_noLoc A c hc
   · show AV.dslice (List.take ((0 + A.length) * 2) (List.drop 0 (List.take (A.length * 2) (wc A)))) (0 + A.length) none = _
     rw [Nat.zero_add, List.drop_zero, ht, ht]
end Go.Proofs

namespace Go.Proofs
open Go Go.Eng
set_option maxRecDepth 100000
set_option maxHeartbeats 4000000

theorem CallA.weak {P : Program} {f : FuncId} {args : List AV} {r r' : AV} {H : Heap} (h : CallA P f args H fun v H' => v = r ∧ H' = Heap.nil) (hw : ∀ M μ x, relV M r μ x → relV M r' μ x) : CallA P f args H fun v H' => v = r' ∧ H' = Heap.nil :=
 ⟨h.ok, fun M μ w vs R hv => (h.run M μ w vs R hv).mono (by
  rintro e W' ⟨v, M', μ', H', c, rfl, R', hv, G, rfl, rfl⟩
  exact ⟨v, M', μ', _, r', rfl, R', hw _ _ _ hv, G, rfl, rfl⟩)⟩
theorem relL_wk {M : Mem} {μ : Pos} {a b : AV} (hw : ∀ x, relV M a μ x → relV M b μ x) (ys : List AV) : ∀ (xs : List AV) {vs : List Value}, relL M (xs ++ a :: ys) μ vs → relL M (xs ++ b :: ys) μ vs
 | [], vs, h => by
  simp only [List.nil_append, relL] at h ⊢
  obtain ⟨v, r, h1, h2, h3⟩ := h
  exact ⟨v, r, h1, hw _ h2, h3⟩
 | x :: xs, vs, h => by
  simp only [List.cons_append, relL] at h ⊢
  obtain ⟨v, r, h1, h2, h3⟩ := h
  exact ⟨v, r, h1, h2, relL_wk hw ys xs h3⟩
def mM (i : Im) (n : Int) : List AV := .dslice (cpus i.e n.toNat) n.toNat none :: memC i i.sg.length :: (brd n.toNat i.dR ++ [.nils, I 0])
def mres (i : Im) (n : Int) : Int := if i.chk ≠ 0 then i.chk else if n < 1 ∨ n > 4 then 1 else 0
theorem mres0 {i : Im} {n : Int} (h : mres i n = 0) : i.chk = 0 ∧ 1 ≤ n ∧ n ≤ 4 := by
 unfold mres at h
 split at h
 · contradiction
 · split at h
   · cases h
   · rename_i h1 h2; exact ⟨by simpa using h1, by omega⟩
theorem mres1 {i : Im} {n : Int} {c : Int} (h : mres i n = c) (hc : c ≠ 0) : (i.chk ≠ 0 ∧ c = i.chk) ∨ (i.chk = 0 ∧ (n < 1 ∨ n > 4) ∧ c = 1) := by
 unfold mres at h
 split at h
 · exact .inl ⟨by assumption, h.symm⟩
 · split at h
   · rename_i h1 h2; exact .inr ⟨by simpa using h1, h2, h.symm⟩
   · exact absurd h.symm hc
theorem nNat {n : Int} (h : 1 ≤ n ∧ n ≤ 4) : ∃ k : Nat, n = k ∧ n.toNat = k ∧ (k = 1 ∨ k = 2 ∨ k = 3 ∨ k = 4) := ⟨n.toNat, by omega, rfl, by omega⟩
theorem z20e (i : Im) (n : Int) (h : i.ok) {c : Int} (hm : mres i n = c) (hc : c ≠ 0) : CallA Tryz.prog 20 [i.av, I n] Heap.nil fun v H' => v = .tuple [.agg m0, I c] ∧ H' = Heap.nil := by
 rcases mres1 hm hc with ⟨h1, rfl⟩ | ⟨h1, h2, rfl⟩
 · exact c20e i n h h1
 · exact c20n i n h h1 h2
theorem z21e (i : Im) (n : Int) (h : i.ok) {c : Int} (hm : mres i n = c) (hc : c ≠ 0) : CallA Tryz.prog 21 [i.av, I n] Heap.nil fun v H' => v = .agg (m0 ++ t73 c) ∧ H' = Heap.nil := by
 rcases mres1 hm hc with ⟨h1, rfl⟩ | ⟨h1, h2, rfl⟩
 · exact c21e i n h h1
 · exact c21n i n h h1 h2
theorem z20 (i : Im) (n : Int) (h : i.ok) (hm : mres i n = 0) : CallA Tryz.prog 20 [i.av, I n] Heap.nil fun v H' => v = .tuple [.agg (mM i n), I 0] ∧ H' = Heap.nil := by
 obtain ⟨h1, h2⟩ := mres0 hm
 obtain ⟨k, rfl, h3, h4⟩ := nNat h2
 have h20 := c20 i k h h1 h4
 unfold mM
 rw [h3]
 by_cases h0 : i.dn = 0
 · have e : i.dI = .nils := by unfold Im.dI; rw [if_pos h0]
   have e2 : i.dR = .dslice [] 0 none := by
    have := h.dl
    unfold Im.dR; rw [h0, List.eq_nil_of_length_eq_zero (l := i.dc) (by omega)]
   refine CallA.weak h20 fun M μ x hx => ?_
   unfold mch at hx
   rw [e] at hx
   rw [e2]
   generalize memC i i.sg.length = mc at hx ⊢
   generalize AV.dslice (cpus i.e k) k none = cc at hx ⊢
   simp only [relV, relL] at hx ⊢
   obtain ⟨vs, rfl, v, r, hr, ⟨us, rfl, hu⟩, h6⟩ := hx
   refine ⟨vs, rfl, _, r, hr, ⟨us, rfl, ?_⟩, h6⟩
   obtain ⟨a, r1, e1, ha, b, r2, rfl, hb, h7⟩ := hu
   exact ⟨a, _, e1, ha, b, r2, rfl, hb, relL_wk (fun x => wk_nil M μ x) _ ((brd k .nils).take 33) h7⟩
 · have e : i.dI = i.dR := by unfold Im.dI; rw [if_neg h0]; rfl
   rw [e] at h20
   exact h20
theorem z21 (i : Im) (n : Int) (h : i.ok) (hm : mres i n = 0) : CallA Tryz.prog 21 [i.av, I n] Heap.nil fun v H' => v = .agg (mM i n ++ t73 0) ∧ H' = Heap.nil := by
 obtain ⟨h1, h2⟩ := mres0 hm
 obtain ⟨k, rfl, h3, h4⟩ := nNat h2
 have h21 := c21 i k h h1 h4
 unfold mM
 rw [h3]
 exact h21
end Go.Proofs

namespace Go.Proofs
open Go Go.Eng
set_option maxRecDepth 100000
set_option maxHeartbeats 4000000

theorem eqM : ∀ (n : Nat) (l : List Nat) {K : Bool → Prop}, l.length = n → K true → eqCells (List.replicate n (.i .u8)) (l.map B) (l.map B) K
 | 0, [], K, _, hk => hk
 | n + 1, x :: l, K, h, hk => by
  show eqCells (.i .u8 :: List.replicate n (.i .u8)) (B x :: l.map B) (B x :: l.map B) K
  have : eqOne (.i .u8) (B x) (B x) = some true := by simp [eqOne]
  simp only [eqCells, this]
  exact eqM n l (by simpa using h) (by simpa using hk)
theorem tkM {bs l : List Nat} {k off : Nat} {K : List AV → Prop} (hl : (bs.drop (k * 128)).take 128 = l) (hb : k * 128 + 128 ≤ bs.length) (ho : off = k * 128) (hk : K (l.map B)) : takeK 128 ((bs.map B).drop off) K := by
 subst ho
 rw [takeK_eq _ _ _ (by simp; omega), ← List.map_drop, ← List.map_take, hl]; exact hk
def L57 (M : List Nat) (p : Nat) (cap : Option Nat) (m : Nat) (fr : Fr) (H : Heap) : Prop := ∃ k : Nat, k ≤ p ∧ m = p - k ∧ fr = [(2, .ptr 0 0), (3, .ptr 1 0), (5, .nils), (6, I k)] ∧ H = ⟨2, [(0, .cells [.dslice (M.map B) p cap]), (1, .cells [.dslice (M.map B) p cap])]⟩
theorem c57 (M : List Nat) (p : Nat) (cap : Option Nat) (hp : p ≤ 64) (hM : M.length = p * 128) : CallA Tryz.prog 57 [.agg [.dslice (M.map B) p cap], .agg [.dslice (M.map B) p cap]] Heap.nil fun v H' => v = .nils ∧ H' = Heap.nil := by
 refine callA_of ok57 (Nat.le_of_ble_eq_true rfl) ?_
 have hdd : ∀ c ∈ [AV.dslice (M.map B) p cap], noLoc c = true := dat (by simp [noLoc, noLocL_bs])
 repeat' ((conv => whnf); first | refine Branch.ofT rfl ?_ | refine Branch.ofF rfl ?_ | refine Branch.ofT (decide_eq_true (by omega)) ?_ | refine Branch.ofF (decide_eq_false (by omega)) ?_ | refine Branch.dec (fun h => ?_) (fun h => ?_) | refine Branch.negdec (fun h => ?_) (fun h => ?_) | refine Branch.neg (fun h => ?_) (fun h => ?_) | refine Branch.mk (fun h => ?_) (fun h => ?_) | (refine Side.mk ?_ ?_; · first | omega | decide) | (refine SideD.mk ?_ ?_; · first | omega | decide) | refine ⟨_, Nat.lt_succ_self _, To.refl (.inl ⟨rfl, ?_⟩)⟩ | (refine Side.mk ?_ ?_; · (simp; done)) | fail)
 all_goals (conv => whnf)
 refine ⟨L57 M p cap, p, To.gc [(0, true), (1, true)] [2, 3, 5, 6] rfl ⟨hdd, hdd, trivial⟩ ⟨0, by omega, by omega, rfl, rfl⟩, ?_⟩
 rintro m fr H ⟨k, hk, rfl, rfl, rfl⟩
 by_cases hkl : k < p
 · obtain ⟨l, hl⟩ : ∃ l, (M.drop (k * 128)).take 128 = l := ⟨_, rfl⟩
   have hll : l.length = 128 := by rw [← hl]; simp; omega
   repeat' ((conv => whnf); first | refine Branch.ofT rfl ?_ | refine Branch.ofF rfl ?_ | refine Branch.ofT (decide_eq_true (by omega)) ?_ | refine Branch.ofF (decide_eq_false (by omega)) ?_ | refine Branch.dec (fun h => ?_) (fun h => ?_) | refine Branch.negdec (fun h => ?_) (fun h => ?_) | refine Branch.neg (fun h => ?_) (fun h => ?_) | refine Branch.mk (fun h => ?_) (fun h => ?_) | (refine Side.mk ?_ ?_; · first | omega | decide) | (refine SideD.mk ?_ ?_; · first | omega | decide) | refine ⟨_, Nat.lt_succ_self _, To.refl (.inl ⟨rfl, ?_⟩)⟩ | refine tkM hl (by omega) (by omega) ?_ | refine eqM 128 l hll ?_ | (refine Side.mk ?_ ?_; · (simp; done)) | fail)
   all_goals (conv => whnf)
   all_goals first | (exfalso; omega) | exact ⟨p - (k + 1), by omega, To.gc [(0, true), (1, true)] [2, 3, 5, 6] rfl ⟨hdd, hdd, trivial⟩ ⟨k + 1, by omega, rfl, rfl, rfl⟩⟩
 · have hkl : k = p := by omega
   subst hkl
   repeat' ((conv => whnf); first | refine Branch.ofT rfl ?_ | refine Branch.ofF rfl ?_ | refine Branch.ofT (decide_eq_true (by omega)) ?_ | refine Branch.ofF (decide_eq_false (by omega)) ?_ | refine Branch.dec (fun h => ?_) (fun h => ?_) | refine Branch.negdec (fun h => ?_) (fun h => ?_) | refine Branch.neg (fun h => ?_) (fun h => ?_) | refine Branch.mk (fun h => ?_) (fun h => ?_) | (refine Side.mk ?_ ?_; · first | omega | decide) | (refine SideD.mk ?_ ?_; · first | omega | decide) | refine ⟨_, Nat.lt_succ_self _, To.refl (.inl ⟨rfl, ?_⟩)⟩ | (refine Side.mk ?_ ?_; · (simp; done)) | fail)
   all_goals (conv => whnf)
   all_goals first | (exfalso; omega) | exact RetA.data rfl ⟨rfl, rfl⟩
theorem c38 (M : List Nat) (p : Nat) (cap : Option Nat) (hp : p ≤ 64) (hM : M.length = p * 128) : CallA Tryz.prog 38 [.agg [.dslice (M.map B) p cap], .agg [.dslice (M.map B) p cap]] Heap.nil fun v H' => v = .bool true ∧ H' = Heap.nil := by
 have h57 := c57 M p cap hp hM
 have hd := noLocL_bs M
 refine callA_of ok38 (Nat.le_of_ble_eq_true rfl) ?_
 repeat' ((conv => whnf); first | refine Branch.ofT rfl ?_ | refine Branch.ofF rfl ?_ | refine Branch.ofT (decide_eq_true (by omega)) ?_ | refine Branch.ofF (decide_eq_false (by omega)) ?_ | refine Branch.dec (fun h => ?_) (fun h => ?_) | refine Branch.negdec (fun h => ?_) (fun h => ?_) | refine Branch.neg (fun h => ?_) (fun h => ?_) | refine Branch.mk (fun h => ?_) (fun h => ?_) | (refine Side.mk ?_ ?_; · first | omega | decide) | (refine SideD.mk ?_ ?_; · first | omega | decide) | refine ⟨_, Nat.lt_succ_self _, To.refl (.inl ⟨rfl, ?_⟩)⟩ | refine CallA.pure h57 (by simp [noLocL, noLoc, hd]) rfl ?_ | (refine Side.mk ?_ ?_; · (simp; done)) | fail)
 all_goals (conv => whnf)
 exact RetA.data rfl ⟨rfl, rfl⟩
end Go.Proofs

namespace Go.Proofs
open Go Go.Eng
set_option maxRecDepth 100000
set_option maxHeartbeats 4000000

def isB : AV → Bool
 | .int .u8 n => decide (0 ≤ n)
 | _ => false
theorem isB_map : ∀ {cs : List AV}, cs.all isB = true → ∃ l : List Nat, cs = l.map B
 | [], _ => ⟨[], rfl⟩
 | c :: cs, h => by
  simp only [List.all_cons, Bool.and_eq_true] at h
  obtain ⟨l, rfl⟩ := isB_map h.2
  have h1 := h.1
  unfold isB at h1
  split at h1
  · rename_i n
    exact ⟨n.toNat :: l, by rw [List.map_cons]; congr 1; show AV.int .u8 n = .int .u8 (n.toNat : Int); rw [Int.toNat_of_nonneg (of_decide_eq_true h1)]⟩
  · cases h1
def arg85 (n : Nat) : List AV := [.dslice [I 0, I 0, I 0, I 0, I n, I 0] 6 (some 6)]
def chk85 (n : Nat) : Bool := match callB (runO noOv ntTbl ntRt 1000 60) 85 (arg85 n) with
 | some (m, none, 1, cs) => cs.all isB && Nat.beq m cs.length && Nat.ble m 100
 | _ => false
theorem all85 : (List.range 65).all chk85 = true := by kernel_rfl
end Go.Proofs

namespace Go.Proofs
open Go Go.Eng
set_option maxRecDepth 100000
set_option maxHeartbeats 4000000

theorem CallA.into {P : Program} {f : FuncId} {vs : List AV} {K0 K : AV → Heap → Prop} (h : CallA P f vs Heap.nil K0) (hk : ∀ v H', K0 v H' → ∃ v' H'', Into 0 [(0, v)] H' [(0, v')] H'' ∧ K v' H'') : CallA P f vs Heap.nil K := by
 refine ⟨h.ok, fun M μ w vs0 R hv => (h.run M μ w vs0 R hv).mono ?_⟩
 rintro e w' ⟨v, M', μ', H', c, rfl, R', hv', G, hK⟩
 have hμ : μ = Pos.none := funext fun k => R.dom k (Nat.zero_le _)
 subst hμ
 obtain ⟨r, H2, hi, hk⟩ := hk c H' hK
 obtain ⟨M2, μ2, R2, F2, _, G2⟩ := hi 1 M' μ' w' #[v] R' ⟨R'.glob, rfl, fun t => by
  simp only [Eng.look]
  by_cases e : 0 = t
  · subst e; simpa [Eng.look] using hv'
  · rw [beq_false e]; simp [relV]⟩ (Nat.zero_le _)
 have := F2.slot 0
 refine ⟨v, M2, μ2, H2, r, rfl, R2, by simpa [Eng.look] using this, ⟨(fun k x h => nomatch h), G.grow.trans G2, Nat.zero_le _⟩, hk⟩
theorem own_at {P : Program} {f : FuncId} {vs : List AV} {n : Nat} {cp : Option Nat} {e : Nat} {cs : List AV} (h : OCallA P f vs fun n' c' e' cs' => n' = n ∧ c' = cp ∧ e' = e ∧ cs' = cs) : CallA P f vs Heap.nil fun v H' => v = .slice 0 0 n cp e ∧ H' = ⟨1, [(0, .cells cs)]⟩ := by
 obtain ⟨k, n', c', e', cs', _, h2, h3, rfl, rfl, rfl, rfl⟩ := h.ex
 refine CallA.into h3 ?_
 rintro v H' ⟨rfl, hg⟩
 have hd : dataB (H'.get k) := by rw [hg]; exact noLocL_all h2
 refine ⟨_, _, Into.gc [(k, true)] [0] rfl ⟨hd, trivial⟩, ?_, ?_⟩
 · simp [ren, posOf, posOf.go, Eng.look]
 · simp [gcH, gcB, hg]
theorem c85 (n : Nat) (h : n ≤ 64) : ∃ l : List Nat, l.length ≤ 100 ∧ CallA Tryz.prog 85 (arg85 n) Heap.nil fun v H' => v = .slice 0 0 l.length none 1 ∧ H' = ⟨1, [(0, .cells (l.map B))]⟩ := by
 have hc : chk85 n = true := List.all_eq_true.1 all85 n (by simp; omega)
 unfold chk85 at hc
 split at hc
 · rename_i m cs hr
   simp only [Bool.and_eq_true] at hc
   obtain ⟨l, rfl⟩ := isB_map hc.1.1
   have hm : m = l.length := by simpa using Nat.eq_of_beq_eq_true hc.1.2
   subst hm
   exact ⟨l, Nat.le_of_ble_eq_true hc.2, own_at (callB_run (runO_ok noOv_ok (okAll_spec ntOk) (rfTbl_spec ntRf) (rtAll_spec ntRt_ok) 1000 60) hr ⟨rfl, rfl, rfl, rfl⟩)⟩
 · cases hc
end Go.Proofs

namespace Go.Proofs
open Go Go.Eng
set_option maxRecDepth 100000
set_option maxHeartbeats 4000000
theorem dat1 (x : Nat) : ∀ c ∈ List.take (1 * 1) [B x], scal c = true := by
 intro c h
 have : c = B x := by simpa using h
 subst this; rfl
theorem nB {bs : List Nat} {m off x : Nat} {K : AV → Prop} (h : m < bs.length) (hx : bs[m] = x) (ho : off = m) (hk : K (B x)) : nthK 0 ((bs.map B).drop off) K := by
 subst ho
 rw [← List.map_drop, List.drop_eq_getElem_cons h, hx]; exact hk
theorem nB2 {bs : List Nat} {m a b x : Nat} {K : AV → Prop} (h : m < bs.length) (hx : bs[m] = x) (ho : b + a = m) (hk : K (B x)) : nthK 0 (((bs.map B).drop b).drop a) K := by
 rw [List.drop_drop]
 exact nB h hx ho hk
def blkA (bs : List Nat) (dn : Nat) : List AV := blk (.dslice (bs.map B) dn none)
theorem blkA_data (bs : List Nat) (dn : Nat) : dataB (.cells (blkA bs dn)) := by
 apply noLocL_all
 simp [blkA, blk, noLocL, noLoc, noLocL_bs]
def H76 (l bs : List Nat) (dn m : Nat) : Heap := ⟨2, [(0, .cells (blkA bs dn)), (1, .cells ((l ++ bs.take m).map B))]⟩
theorem H76s {l bs : List Nat} {dn m : Nat} {cs : List AV} (h : (l ++ bs.take m).map B = cs) : H76 l bs dn m = ⟨2, [(0, .cells (blkA bs dn)), (1, .cells cs)]⟩ := by subst h; rfl
def L76 (l bs : List Nat) (dn : Nat) (m : Nat) (fr : Fr) (H : Heap) : Prop := ∃ k : Nat, k ≤ dn ∧ m = dn - k ∧ fr = [(1, .ptr 0 0), (7, .slice 1 0 (l.length + k * 128) none 1), (8, I k)] ∧ H = H76 l bs dn (k * 128)
def L76i (l bs : List Nat) (dn k : Nat) (m : Nat) (fr : Fr) (H : Heap) : Prop := ∃ j : Nat, j ≤ 128 ∧ m = 128 - j ∧ fr = [(1, .ptr 0 0), (7, .slice 1 0 (l.length + (k * 128 + j)) none 1), (8, I k), (9, I j)] ∧ H = H76 l bs dn (k * 128 + j)
theorem c76 (bs : List Nat) (dn : Nat) (hd : dn ≤ 64) (hb : bs.length = 128 * dn) : ∃ r : List Nat, CallA Tryz.prog 76 [.agg (blkA bs dn)] Heap.nil fun v H' => v = .dslice (r.map B) r.length none ∧ H' = Heap.nil := by
 obtain ⟨l, hl, h85⟩ := c85 dn hd
 have hbd := blkA_data bs dn
 have hl0 : ∀ n : Nat, n = l.length → (⟨2, [(0, .cells (blkA bs dn)), (1, .cells (l.map B))]⟩ : Heap) = H76 l bs dn (0 * 128) := by intro n _; simp [H76]
 refine ⟨l ++ bs, ?_⟩
 refine callA_of ok76 (Nat.le_of_ble_eq_true rfl) ?_
 repeat' ((conv => whnf); first | refine Branch.ofT rfl ?_ | refine Branch.ofF rfl ?_ | refine Branch.ofT (decide_eq_true (by omega)) ?_ | refine Branch.ofF (decide_eq_false (by omega)) ?_ | refine Branch.dec (fun h => ?_) (fun h => ?_) | refine Branch.negdec (fun h => ?_) (fun h => ?_) | refine Branch.neg (fun h => ?_) (fun h => ?_) | refine Branch.mk (fun h => ?_) (fun h => ?_) | (refine Side.mk ?_ ?_; · first | omega | decide) | (refine SideD.mk ?_ ?_; · first | omega | decide) | refine ⟨_, Nat.lt_succ_self _, To.refl (.inl ⟨rfl, ?_⟩)⟩ | refine CallA.ownE h85 rfl (noLocL_bs l) ?_ | (refine Side.mk ?_ ?_; · (simp; done)) | fail)
 all_goals (conv => whnf)
 refine LoopA.unroll _ _ _ 1 ?_
 repeat' ((conv => whnf); first | refine Branch.ofT rfl ?_ | refine Branch.ofF rfl ?_ | refine Branch.ofT (decide_eq_true (by omega)) ?_ | refine Branch.ofF (decide_eq_false (by omega)) ?_ | refine Branch.dec (fun h => ?_) (fun h => ?_) | refine Branch.negdec (fun h => ?_) (fun h => ?_) | refine Branch.neg (fun h => ?_) (fun h => ?_) | refine Branch.mk (fun h => ?_) (fun h => ?_) | (refine Side.mk ?_ ?_; · first | omega | decide) | (refine SideD.mk ?_ ?_; · first | omega | decide) | refine ⟨_, Nat.lt_succ_self _, To.refl (.inl ⟨rfl, ?_⟩)⟩ | refine CallA.ownE h85 rfl (noLocL_bs l) ?_ | (refine Side.mk ?_ ?_; · (simp; done)) | fail)
 all_goals (conv => whnf)
 refine ⟨L76 l bs dn, dn, To.gc [(0, true), (1, true)] [1, 7, 8] rfl ⟨hbd, dat_bs l, trivial⟩ ⟨0, by omega, by omega, rfl, Eq.trans rfl (hl0 l.length rfl)⟩, ?_⟩
 rintro m fr H ⟨k, hk, rfl, rfl, rfl⟩
 have hcd : ∀ m, ∀ c ∈ (l ++ bs.take m).map B, noLoc c = true := fun m => dat_bs _
 by_cases hkl : k < dn
 · repeat' ((conv => whnf); first | refine Branch.ofT rfl ?_ | refine Branch.ofF rfl ?_ | refine Branch.ofT (decide_eq_true (by omega)) ?_ | refine Branch.ofF (decide_eq_false (by omega)) ?_ | refine Branch.dec (fun h => ?_) (fun h => ?_) | refine Branch.negdec (fun h => ?_) (fun h => ?_) | refine Branch.neg (fun h => ?_) (fun h => ?_) | refine Branch.mk (fun h => ?_) (fun h => ?_) | (refine Side.mk ?_ ?_; · first | omega | decide) | (refine SideD.mk ?_ ?_; · first | omega | decide) | refine ⟨_, Nat.lt_succ_self _, To.refl (.inl ⟨rfl, ?_⟩)⟩ | (refine Side.mk ?_ ?_; · (simp; done)) | fail)
   all_goals (conv => whnf)
   refine ⟨L76i l bs dn k, 128, To.gc [(0, true), (1, true)] [1, 7, 8, 9] rfl ⟨hbd, hcd _, trivial⟩ ⟨0, by omega, by omega, rfl, rfl⟩, ?_⟩
   rintro m fr H ⟨j, hj, rfl, rfl, rfl⟩
   by_cases hjl : j < 128
   · have hm : k * 128 + j < bs.length := by omega
     have hs : (l ++ bs.take (k * 128 + (j + 1))).map B = (l ++ bs.take (k * 128 + j)).map B ++ [B bs[k * 128 + j]] := by
      rw [← Nat.add_assoc, List.take_succ, List.getElem?_eq_getElem hm, ← List.append_assoc, List.map_append]; rfl
     have hlen : ((l ++ bs.take (k * 128 + j)).map B).length = (l.length + (k * 128 + j)) * 1 := by simp; omega
     have hcs := hcd (k * 128 + (j + 1))
     rw [hs] at hcs
     generalize hx : bs[k * 128 + j] = x at hs hcs
     repeat' ((conv => whnf); first | refine Branch.ofT rfl ?_ | refine Branch.ofF rfl ?_ | refine Branch.ofT (decide_eq_true (by omega)) ?_ | refine Branch.ofF (decide_eq_false (by omega)) ?_ | refine Branch.dec (fun h => ?_) (fun h => ?_) | refine Branch.negdec (fun h => ?_) (fun h => ?_) | refine Branch.neg (fun h => ?_) (fun h => ?_) | refine Branch.mk (fun h => ?_) (fun h => ?_) | (refine Side.mk ?_ ?_; · first | omega | decide) | (refine SideD.mk ?_ ?_; · first | omega | decide) | refine ⟨_, Nat.lt_succ_self _, To.refl (.inl ⟨rfl, ?_⟩)⟩ | refine nB2 hm hx (by omega) ?_ | refine Side.mk ⟨rfl, rfl, hlen, by unfold fits; omega, dat1 x⟩ ?_ | (refine Side.mk ?_ ?_; · (simp; done)) | fail)
     all_goals (conv => whnf)
     exact ⟨128 - (j + 1), by omega, To.gc [(0, true), (2, true)] [1, 7, 8, 9] rfl ⟨hbd, hcs, trivial⟩ ⟨j + 1, by omega, rfl, rfl, Eq.trans rfl (H76s hs).symm⟩⟩
   · have hjl : j = 128 := by omega
     subst hjl
     repeat' ((conv => whnf); first | refine Branch.ofT rfl ?_ | refine Branch.ofF rfl ?_ | refine Branch.ofT (decide_eq_true (by omega)) ?_ | refine Branch.ofF (decide_eq_false (by omega)) ?_ | refine Branch.dec (fun h => ?_) (fun h => ?_) | refine Branch.negdec (fun h => ?_) (fun h => ?_) | refine Branch.neg (fun h => ?_) (fun h => ?_) | refine Branch.mk (fun h => ?_) (fun h => ?_) | (refine Side.mk ?_ ?_; · first | omega | decide) | (refine SideD.mk ?_ ?_; · first | omega | decide) | refine ⟨_, Nat.lt_succ_self _, To.refl (.inl ⟨rfl, ?_⟩)⟩ | (refine Side.mk ?_ ?_; · (simp; done)) | fail)
     all_goals (conv => whnf)
     have e : k * 128 + 128 = (k + 1) * 128 := by omega
     exact ⟨dn - (k + 1), by omega, To.gc [(0, true), (1, true)] [1, 7, 8] rfl ⟨hbd, hcd _, trivial⟩ ⟨k + 1, by omega, rfl, by rw [← e]; rfl, by rw [← e]; rfl⟩⟩
 · have hkl : k = dn := by omega
   subst hkl
   repeat' ((conv => whnf); first | refine Branch.ofT rfl ?_ | refine Branch.ofF rfl ?_ | refine Branch.ofT (decide_eq_true (by omega)) ?_ | refine Branch.ofF (decide_eq_false (by omega)) ?_ | refine Branch.dec (fun h => ?_) (fun h => ?_) | refine Branch.negdec (fun h => ?_) (fun h => ?_) | refine Branch.neg (fun h => ?_) (fun h => ?_) | refine Branch.mk (fun h => ?_) (fun h => ?_) | (refine Side.mk ?_ ?_; · first | omega | decide) | (refine SideD.mk ?_ ?_; · first | omega | decide) | refine ⟨_, Nat.lt_succ_self _, To.refl (.inl ⟨rfl, ?_⟩)⟩ | (refine Side.mk ?_ ?_; · (simp; done)) | fail)
   all_goals (conv => whnf)
   have ht : bs.take (k * 128) = bs := List.take_of_length_le (by omega)
   have e : AV.dslice ((((l ++ bs.take (k * 128)).map B).drop 0).take ((l.length + k * 128) * 1)) (l.length + k * 128) none = .dslice ((l ++ bs).map B) (l ++ bs).length none := by
    rw [ht, List.drop_zero, List.length_append, List.take_of_length_le (by simp; omega)]
    try (congr 1 <;> omega)
   exact RetA.pub 1 (ds := (l ++ bs.take (k * 128)).map B) rfl (hcd _) (RetA.data (v := AV.dslice ((((l ++ bs.take (k * 128)).map B).drop 0).take ((l.length + k * 128) * 1)) (l.length + k * 128) none) (by rw [e]; rfl) ⟨e, rfl⟩)
theorem br (l : List Nat) : ∃ r, bytesOf (List.take (l.length * 1) (l.map B)) = some r := by
 rw [List.take_of_length_le (by simp)]
 have : ∀ l : List Nat, ∃ r, bytesOf (l.map B) = some r := by
  intro l
  induction l with
  | nil => exact ⟨[], rfl⟩
  | cons x l ih =>
   obtain ⟨r, hr⟩ := ih
   exact ⟨(x : Int) :: r, by show bytesOf (.int .u8 (x : Int) :: l.map B) = _; simp only [bytesOf, hr]⟩
 exact this l
theorem c58 (bs : List Nat) (dn : Nat) (hd : dn ≤ 64) (hb : bs.length = 128 * dn) : CallA Tryz.prog 58 [.agg (blkA bs dn), .agg (blkA bs dn)] Heap.nil fun v H' => v = .bool true ∧ H' = Heap.nil := by
 obtain ⟨r, h76⟩ := c76 bs dn hd hb
 have hbl : noLocL (blkA bs dn) = true := by simp [blkA, blk, noLocL, noLoc, noLocL_bs]
 refine callA_of ok58 (Nat.le_of_ble_eq_true rfl) ?_
 obtain ⟨li, hli⟩ := br r
 repeat' ((conv => whnf); first | refine Branch.ofT rfl ?_ | refine Branch.ofF rfl ?_ | refine Branch.ofT (decide_eq_true (by omega)) ?_ | refine Branch.ofF (decide_eq_false (by omega)) ?_ | refine Branch.dec (fun h => ?_) (fun h => ?_) | refine Branch.negdec (fun h => ?_) (fun h => ?_) | refine Branch.neg (fun h => ?_) (fun h => ?_) | refine Branch.mk (fun h => ?_) (fun h => ?_) | (refine Side.mk ?_ ?_; · first | omega | decide) | (refine SideD.mk ?_ ?_; · first | omega | decide) | refine ⟨_, Nat.lt_succ_self _, To.refl (.inl ⟨rfl, ?_⟩)⟩ | refine QCallA.of h76 (by simp [noLocL, noLoc, hbl]) (by simp [noLoc, noLocL_bs]) ?_ | refine BRes.mk ⟨li, hli, ?_⟩ | (refine Side.mk ?_ ?_; · (simp; done)) | fail)
 all_goals (conv => whnf)
 exact RetA.data rfl ⟨by simp [Eng.one], rfl⟩
end Go.Proofs

namespace Go.Proofs
open Go Go.Eng
set_option maxRecDepth 100000
set_option maxHeartbeats 4000000

def ic : List Im → List AV
 | [] => []
 | i :: r => I i.e :: I i.p :: .dslice (sgc i.sg) i.sg.length none :: .dslice i.dc i.dn none :: ic r
theorem ic_len : ∀ l : List Im, (ic l).length = 4 * l.length
 | [] => rfl
 | x :: r => by simp [ic, ic_len r]; omega
theorem ic_noLoc : ∀ l : List Im, (∀ i ∈ l, i.raw) → ∀ c ∈ ic l, noLoc c = true
 | [], _, _, h => by cases h
 | x :: r, hr, c, h => by
  have h1 := imc_raw (hr x List.mem_cons_self)
  simp only [ic, List.mem_cons] at h
  rcases h with h | h | h | h | h
  · exact h1 c (by simp [h])
  · exact h1 c (by simp [h])
  · exact h1 c (by simp [h])
  · exact h1 c (by simp [h])
  · exact ic_noLoc r (fun i hi => hr i (List.mem_cons_of_mem _ hi)) c h
theorem ic_at : ∀ {l : List Im} {i off : Nat} (h : i < l.length) (ho : off = 4 * i), (ic l).drop off = I (l[i]).e :: I (l[i]).p :: .dslice (sgc (l[i]).sg) (l[i]).sg.length none :: .dslice (l[i]).dc (l[i]).dn none :: ic (l.drop (i + 1))
 | x :: r, 0, _, _, rfl => rfl
 | x :: r, i + 1, off, h, ho => by
  subst ho
  have := ic_at (l := r) (i := i) (off := 4 * i) (by simpa using h) rfl
  rw [show 4 * (i + 1) = 4 * i + 1 + 1 + 1 + 1 by omega]
  simpa [ic] using this
theorem itk {l : List Im} {k off : Nat} {i : Im} {K : List AV → Prop} (h : k < l.length) (hx : l[k] = i) (ho : off = 4 * k) (hk : K [I i.e, I i.p, .dslice (sgc i.sg) i.sg.length none, .dslice i.dc i.dn none]) : takeK 4 ((ic l).drop off) K := by
 rw [takeK_eq _ _ _ (by rw [List.length_drop, ic_len]; omega), ic_at h ho, hx]; exact hk
def nc (l : List Int) : List AV := l.map I
theorem nth_nc {l : List Int} {i off : Nat} {x : Int} {K : AV → Prop} (h : i < l.length) (hx : l[i] = x) (ho : off = i) (hk : K (I x)) : nthK 0 ((nc l).drop off) K := by
 subst ho
 rw [nc, ← List.map_drop, List.drop_eq_getElem_cons h, hx]; exact hk
def mcs : List Im → List Int → List AV
 | i :: r, n :: s => mM i n ++ mcs r s
 | _, _ => []
def ec : List Im → List Int → Int
 | i :: r, n :: s => if mres i n = 0 then ec r s else mres i n
 | _, _ => 0
theorem ec_at {ims : List Im} {ns : List Int} {k : Nat} (h1 : k < ims.length) (h2 : k < ns.length) : ec (ims.drop k) (ns.drop k) = if mres ims[k] ns[k] = 0 then ec (ims.drop (k + 1)) (ns.drop (k + 1)) else mres ims[k] ns[k] := by
 rw [List.drop_eq_getElem_cons h1, List.drop_eq_getElem_cons h2]; rfl
theorem mcs_snoc (i : Im) (n : Int) : ∀ (a : List Im) (b : List Int), a.length = b.length → mcs (a ++ [i]) (b ++ [n]) = mcs a b ++ mM i n
 | [], [], _ => by simp [mcs]
 | x :: a, y :: b, h => by simp only [List.cons_append, mcs, mcs_snoc i n a b (by simpa using h), List.append_assoc]
theorem mcs_take {ims : List Im} {ns : List Int} {k : Nat} (h1 : k < ims.length) (h2 : k < ns.length) : mcs (ims.take (k + 1)) (ns.take (k + 1)) = mcs (ims.take k) (ns.take k) ++ mM ims[k] ns[k] := by
 rw [List.take_succ, List.take_succ, List.getElem?_eq_getElem h1, List.getElem?_eq_getElem h2]
 exact mcs_snoc _ _ _ _ (by simp; omega)
theorem mM_len (i : Im) (n : Int) : (mM i n).length = 47 := rfl
theorem mM_noLoc {i : Im} (h : i.ok) (n : Int) : ∀ c ∈ mM i n, noLoc c = true := by
 apply noLocL_all
 have := dR_data h
 simp [mM, brd, noLocL, noLoc, noLocL_of (cpus_noLoc _ _), memC_data i i.sg.length _ List.mem_cons_self, this]
theorem mM_scal {i : Im} (n : Int) : ∀ c ∈ mM i n, scal c = true := by
 have : (mM i n).all scal = true := rfl
 simpa using this
theorem mcs_len : ∀ (a : List Im) (b : List Int), a.length = b.length → (mcs a b).length = a.length * 47
 | [], [], _ => rfl
 | x :: a, y :: b, h => by simp only [mcs, List.length_append, mM_len, mcs_len a b (by simpa using h), List.length_cons]; omega
theorem mcs_noLoc : ∀ (a : List Im) (b : List Int), (∀ i ∈ a, i.ok) → ∀ c ∈ mcs a b, noLoc c = true
 | [], _, _, c, h => by simp [mcs] at h
 | _ :: _, [], _, c, h => by simp [mcs] at h
 | x :: a, y :: b, hr, c, h => by
  simp only [mcs, List.mem_append] at h
  rcases h with h | h
  · exact mM_noLoc (hr x List.mem_cons_self) y c h
  · exact mcs_noLoc a b (fun i hi => hr i (List.mem_cons_of_mem _ hi)) c h
def n0 : List AV := [.nils, .nils, .nils, .nils, .bool false, .nils, .nils, .nils, .nils]
def nq (n : Nat) : AV := .dslice (((rep [.nils] n).drop 0).take (n * 1)) n (some n)
def net (ims : List Im) (ns : List Int) (ws : List Wr) : List AV := [.dslice (mcs ims ns) ims.length none, .dslice (wc ws) ws.length none, nq ws.length, nq ims.length, .bool false, .nils, .nils, .nils, .nils]
def a6 (ims : List Im) (ns : List Int) (ws : List Wr) : List AV := [.dslice (ic ims) ims.length none, .dslice (nc ns) ns.length none, .dslice (wc ws) ws.length none]
def limB (ims : List Im) (ws : List Wr) : Prop := ims.length < 1 ∨ ims.length > 8 ∨ ws.length > 16
theorem c6a (ims : List Im) (ns : List Int) (ws : List Wr) (hi : ∀ i ∈ ims, i.ok) (hl : limB ims ws) (hb : ims.length ≤ 100 ∧ ns.length ≤ 100 ∧ ws.length ≤ 100) : CallA Tryz.prog 6 (a6 ims ns ws) Heap.nil fun v H' => v = .tuple [.agg n0, I 2] ∧ H' = Heap.nil := by
 refine callA_of ok6 (Nat.le_of_ble_eq_true rfl) ?_
 unfold limB at hl
 repeat' ((conv => whnf); first | refine Branch.ofT rfl ?_ | refine Branch.ofF rfl ?_ | refine Branch.ofT (decide_eq_true (by omega)) ?_ | refine Branch.ofF (decide_eq_false (by omega)) ?_ | refine Branch.dec (fun h => ?_) (fun h => ?_) | refine Branch.negdec (fun h => ?_) (fun h => ?_) | refine Branch.neg (fun h => ?_) (fun h => ?_) | refine Branch.mk (fun h => ?_) (fun h => ?_) | (refine Side.mk ?_ ?_; · first | omega | decide) | (refine SideD.mk ?_ ?_; · first | omega | decide) | refine ⟨_, Nat.lt_succ_self _, To.refl (.inl ⟨rfl, ?_⟩)⟩ | (refine Side.mk ?_ ?_; · (simp; done)) | fail)
 all_goals (conv => whnf)
 all_goals exact RetA.data rfl ⟨rfl, rfl⟩
theorem Im.ok.raw {i : Im} (h : i.ok) : i.raw := ⟨h.e, h.p, h.a, h.z, by have := h.n; omega, h.dl, h.ds, h.dd⟩
theorem lentE {P : Program} {f : FuncId} {args : List AV} {H : Heap} {r : AV} {K : AV → Heap → Prop} (keep : List (Nat × Bool)) (h : CallA P f (renL (posOf keep) args) (gcH keep H) fun v H' => v = r ∧ H' = gcH keep H) (hdis : Eng.distinct keep = true) (hall : keep.all (·.2) = true) (hdata : allData H keep)
 (hlt : keep.all (fun x => Nat.blt x.1 H.nx) = true) (hback : backOk (gcH keep H) keep 0) (hr : noLoc r = true) (hk : K r H) (hit : lentOk keep H.get H.nx = true := by rfl) : CallA P f args H K :=
 CallA.lent (Q := fun v => v = r) keep h hdis hall hdata hlt hback (by rintro _ rfl; exact hr) (by rintro _ rfl; exact hk) hit
theorem c6b (ims : List Im) (ns : List Int) (ws : List Wr) (hi : ∀ i ∈ ims, i.ok) (hl : ¬ limB ims ws) (hb : ns.length ≤ 100) (hw : ns.length ≠ ims.length ∨ ws.any (wrg ims.length) = true) : CallA Tryz.prog 6 (a6 ims ns ws) Heap.nil fun v H' => v = .tuple [.agg n0, I 1] ∧ H' = Heap.nil := by
 refine callA_of ok6 (Nat.le_of_ble_eq_true rfl) ?_
 unfold limB at hl
 have hcs := noLocL_of (ic_noLoc ims fun i h => (hi i h).raw)
 have hdd : ∀ c ∈ [AV.dslice (ic ims) ims.length none], noLoc c = true := dat (by simp [noLoc, hcs])
 have hnI : ns.length = ims.length → (ns.length : Int) = ims.length := fun h => by omega
 by_cases hn : ns.length = ims.length
 · have h18 := c18 ws (ic ims) ims.length hcs (by omega)
   have ha : ws.any (wrg ims.length) = true := by
    rcases hw with hw | hw
    · exact absurd hn hw
    · exact hw
   rw [ha] at h18
   repeat' ((conv => whnf); first | refine Branch.ofT rfl ?_ | refine Branch.ofF rfl ?_ | refine Branch.negdec (fun h => absurd (hnI hn) h) (fun _ => ?_) | refine Branch.ofT (decide_eq_true (by omega)) ?_ | refine Branch.ofF (decide_eq_false (by omega)) ?_ | refine Branch.dec (fun h => ?_) (fun h => ?_) | refine Branch.negdec (fun h => ?_) (fun h => ?_) | refine Branch.neg (fun h => ?_) (fun h => ?_) | refine Branch.mk (fun h => ?_) (fun h => ?_) | (refine Side.mk ?_ ?_; · first | omega | decide) | (refine SideD.mk ?_ ?_; · first | omega | decide) | refine ⟨_, Nat.lt_succ_self _, To.refl (.inl ⟨rfl, ?_⟩)⟩ | refine lentE [(0, true)] h18 rfl rfl ⟨hdd, trivial⟩ rfl ⟨hdd, trivial⟩ rfl ?_ | (refine Side.mk ?_ ?_; · (simp; done)) | fail)
   all_goals (conv => whnf)
   all_goals exact RetA.data rfl ⟨rfl, rfl⟩
 · repeat' ((conv => whnf); first | refine Branch.ofT rfl ?_ | refine Branch.ofF rfl ?_ | refine Branch.ofT (decide_eq_true (by omega)) ?_ | refine Branch.ofF (decide_eq_false (by omega)) ?_ | refine Branch.dec (fun h => ?_) (fun h => ?_) | refine Branch.negdec (fun h => ?_) (fun h => ?_) | refine Branch.neg (fun h => ?_) (fun h => ?_) | refine Branch.mk (fun h => ?_) (fun h => ?_) | (refine Side.mk ?_ ?_; · first | omega | decide) | (refine SideD.mk ?_ ?_; · first | omega | decide) | refine ⟨_, Nat.lt_succ_self _, To.refl (.inl ⟨rfl, ?_⟩)⟩ | (refine Side.mk ?_ ?_; · (simp; done)) | fail)
   all_goals (conv => whnf)
   all_goals first | (exfalso; omega) | exact RetA.data rfl ⟨rfl, rfl⟩
theorem rep_nils (n : Nat) : ∀ c ∈ rep [.nils] n, noLoc c = true := by
 induction n with
 | zero => intro c h; cases h
 | succ n ih =>
  intro c h
  rcases List.mem_append.1 (show c ∈ [AV.nils] ++ rep [.nils] n from h) with h | h
  · rw [List.mem_singleton.1 h]; rfl
  · exact ih c h
theorem nq_data (n : Nat) : noLoc (nq n) = true := by
 have : ∀ c ∈ ((rep [.nils] n).drop 0).take (n * 1), noLoc c = true := fun c h => rep_nils n c (List.mem_of_mem_drop (List.mem_of_mem_take h))
 simpa [nq, noLoc] using noLocL_of this
def nb (x : AV) (ims : List Im) (ws : List Wr) : AB := .cells [x, .dslice (wc ws) ws.length none, nq ws.length, nq ims.length, .bool false, .nils, .nils, .nils, .nils]
theorem nb_data (ims : List Im) (ws : List Wr) {x : AV} (h : noLoc x = true) : dataB (nb x ims ws) := by
 apply noLocL_all
 simp [noLocL, noLoc, h, noLocL_of (wc_noLoc ws), nq_data]
def HN (ims : List Im) (ns : List Int) (ws : List Wr) : Nat → Heap
 | 0 => ⟨3, [(0, .cells [.dslice (ic ims) ims.length none]), (1, .cells n0), (2, nb .nils ims ws)]⟩
 | k + 1 => ⟨4, [(0, .cells [.dslice (ic ims) ims.length none]), (1, .cells n0), (2, nb (.slice 3 0 (k + 1) none 47) ims ws), (3, .cells (mcs (ims.take (k + 1)) (ns.take (k + 1))))]⟩
theorem HN_succ {ims : List Im} {ns : List Int} {ws : List Wr} {k : Nat} {cs : List AV} (h : mcs (ims.take (k + 1)) (ns.take (k + 1)) = cs) : HN ims ns ws (k + 1) = ⟨4, [(0, .cells [.dslice (ic ims) ims.length none]), (1, .cells n0), (2, nb (.slice 3 0 (k + 1) none 47) ims ws), (3, .cells cs)]⟩ := by
 subst h; rfl
def L6 (ims : List Im) (ns : List Int) (ws : List Wr) (m : Nat) (fr : Fr) (H : Heap) : Prop := ∃ k : Nat, k ≤ ims.length ∧ m = ims.length - k ∧ ec ims ns = ec (ims.drop k) (ns.drop k) ∧ fr = [(1, .dslice (nc ns) ns.length none), (3, .ptr 0 0), (6, .ptr 1 0), (9, .ptr 2 0), (49, .dslice (ic ims) ims.length none), (50, I ims.length), (51, I k)] ∧ H = HN ims ns ws k
theorem c6t (ims : List Im) (ns : List Int) (ws : List Wr) (hi : ∀ i ∈ ims, i.ok) (hl : ¬ limB ims ws) (hn : ns.length = ims.length) (hw : ws.any (wrg ims.length) = false) : CallA Tryz.prog 6 (a6 ims ns ws) Heap.nil fun v H' => v = .tuple [.agg (if ec ims ns = 0 then net ims ns ws else n0), I (ec ims ns)] ∧ H' = Heap.nil := by
 refine callA_of ok6 (Nat.le_of_ble_eq_true rfl) ?_
 unfold limB at hl
 have hcs := noLocL_of (ic_noLoc ims fun i h => (hi i h).raw)
 have hdd : ∀ c ∈ [AV.dslice (ic ims) ims.length none], noLoc c = true := dat (by simp [noLoc, hcs])
 have hnI : ns.length = ims.length → (ns.length : Int) = ims.length := fun h => by omega
 have h18 := c18 ws (ic ims) ims.length hcs (by omega)
 have h19 := c19 ws (by omega)
 rw [hw] at h18
 have hwl := noLocL_of (wc_noLoc ws)
 repeat' ((conv => whnf); first | refine Branch.ofT rfl ?_ | refine Branch.ofF rfl ?_ | refine Branch.negdec (fun h => absurd (hnI hn) h) (fun _ => ?_) | refine Branch.ofT (decide_eq_true (by omega)) ?_ | refine Branch.ofF (decide_eq_false (by omega)) ?_ | refine Branch.dec (fun h => ?_) (fun h => ?_) | refine Branch.negdec (fun h => ?_) (fun h => ?_) | refine Branch.neg (fun h => ?_) (fun h => ?_) | refine Branch.mk (fun h => ?_) (fun h => ?_) | (refine Side.mk ?_ ?_; · first | omega | decide) | (refine SideD.mk ?_ ?_; · first | omega | decide) | refine ⟨_, Nat.lt_succ_self _, To.refl (.inl ⟨rfl, ?_⟩)⟩ | refine lentE [(0, true)] h18 rfl rfl ⟨hdd, trivial⟩ rfl ⟨hdd, trivial⟩ rfl ?_ | refine QCallA.of h19 (by simp [noLocL, noLoc, hwl]) (by simp [noLocL, noLoc, hwl]) ?_ | (refine Side.mk ?_ ?_; · (simp; done)) | fail)
 all_goals (conv => whnf)
 have hds : ∀ n : Nat, ∀ c ∈ rep [.nils] n, noLoc c = true := rep_nils
 refine ⟨L6 ims ns ws, ims.length, To.pub 6 [1, 3, 6, 9, 49, 50, 51] (ds := rep [.nils] ws.length) rfl (hds _) (To.pub 9 [1, 3, 6, 9, 49, 50, 51] (ds := rep [.nils] ims.length) (Eq.trans rfl (congrArg AB.cells (pubL_data (k := 6) (ds := rep [.nils] ws.length) (hds ims.length)))) (hds _) (To.gc [(0, true), (1, true), (11, true)] [1, 3, 6, 9, 49, 50, 51] rfl ⟨hdd, dat rfl, ?_, trivial⟩ ⟨0, by omega, by omega, by rw [List.drop_zero, List.drop_zero], rfl, rfl⟩)), ?_⟩
 · exact nb_data ims ws rfl
 rintro m fr H ⟨k, hk, rfl, he, rfl, rfl⟩
 by_cases hkl : k < ims.length
 · rw [ec_at hkl (by omega)] at he
   have hkn : k < ns.length := by omega
   have hio := hi _ (List.getElem_mem hkl)
   have hmt := mcs_take hkl hkn
   generalize hx : ims[k] = i at he hio hmt
   generalize hy : ns[k] = n at he hmt
   have hl := Im.noLoc hio
   by_cases hm : mres i n = 0
   · rw [if_pos hm] at he
     have h20 := z20 i n hio hm
     have hms : ∀ c ∈ mM i n, scal c = true := mM_scal n
     have hmd : ∀ k, ∀ c ∈ mcs (ims.take k) (ns.take k), noLoc c = true := fun k => mcs_noLoc _ _ fun i h => hi i (List.mem_of_mem_take h)
     have hd1 := hmd (k + 1)
     rw [hmt] at hd1
     cases k with
     | zero =>
      repeat' ((conv => whnf); first | refine Branch.ofT rfl ?_ | refine Branch.ofF rfl ?_ | refine Branch.ofT (decide_eq_true (by omega)) ?_ | refine Branch.ofF (decide_eq_false (by omega)) ?_ | refine Branch.dec (fun h => ?_) (fun h => ?_) | refine Branch.negdec (fun h => ?_) (fun h => ?_) | refine Branch.neg (fun h => ?_) (fun h => ?_) | refine Branch.mk (fun h => ?_) (fun h => ?_) | (refine Side.mk ?_ ?_; · first | omega | decide) | (refine SideD.mk ?_ ?_; · first | omega | decide) | refine ⟨_, Nat.lt_succ_self _, To.refl (.inl ⟨rfl, ?_⟩)⟩ | refine itk hkl hx (by omega) ?_ | refine nth_nc hkn hy (by omega) ?_ | refine QCallA.of h20 (by simp [noLocL, hl, noLoc]) (by simp [noLoc, noLocL, noLocL_of (mM_noLoc hio n)]) ?_ | refine Side.mk ⟨by unfold fits; omega, fun c hc => hms c (List.mem_of_mem_take hc)⟩ ?_ | (refine Side.mk ?_ ?_; · (simp; done)) | fail)
      all_goals (conv => whnf)
      exact ⟨ims.length - 1, by omega, To.gc [(0, true), (1, true), (2, false), (16, true)] [1, 3, 6, 9, 49, 50, 51] rfl ⟨hdd, dat rfl, hd1, trivial⟩ ⟨1, by omega, rfl, he, rfl, Eq.trans rfl (HN_succ hmt).symm⟩⟩
     | succ k =>
      have hml : (mcs (ims.take (k + 1)) (ns.take (k + 1))).length = (k + 1) * 47 := by
       rw [mcs_len _ _ (by simp; omega), List.length_take, Nat.min_eq_left (by omega)]
      repeat' ((conv => whnf); first | refine Branch.ofT rfl ?_ | refine Branch.ofF rfl ?_ | refine Branch.ofT (decide_eq_true (by omega)) ?_ | refine Branch.ofF (decide_eq_false (by omega)) ?_ | refine Branch.dec (fun h => ?_) (fun h => ?_) | refine Branch.negdec (fun h => ?_) (fun h => ?_) | refine Branch.neg (fun h => ?_) (fun h => ?_) | refine Branch.mk (fun h => ?_) (fun h => ?_) | (refine Side.mk ?_ ?_; · first | omega | decide) | (refine SideD.mk ?_ ?_; · first | omega | decide) | refine ⟨_, Nat.lt_succ_self _, To.refl (.inl ⟨rfl, ?_⟩)⟩ | refine itk hkl hx (by omega) ?_ | refine nth_nc hkn hy (by omega) ?_ | refine QCallA.of h20 (by simp [noLocL, hl, noLoc]) (by simp [noLoc, noLocL, noLocL_of (mM_noLoc hio n)]) ?_ | refine Side.mk ⟨rfl, rfl, hml, by unfold fits; omega, fun c hc => hms c (List.mem_of_mem_take hc)⟩ ?_ | (refine Side.mk ?_ ?_; · (simp; done)) | fail)
      all_goals (conv => whnf)
      exact ⟨ims.length - (k + 1 + 1), by omega, To.gc [(0, true), (1, true), (2, false), (17, true)] [1, 3, 6, 9, 49, 50, 51] rfl ⟨hdd, dat rfl, hd1, trivial⟩ ⟨k + 1 + 1, by omega, rfl, he, rfl, Eq.trans rfl (HN_succ hmt).symm⟩⟩
   · rw [if_neg hm] at he
     have h20 := z20e i n hio rfl hm
     generalize hc : mres i n = c at h20 he hm
     rw [he, if_neg hm]
     cases k with
     | zero =>
      repeat' ((conv => whnf); first | refine Branch.ofT rfl ?_ | refine Branch.ofF rfl ?_ | refine Branch.negdec (fun _ => ?_) (fun h => absurd h hm) | refine Branch.ofT (decide_eq_true (by omega)) ?_ | refine Branch.ofF (decide_eq_false (by omega)) ?_ | refine Branch.dec (fun h => ?_) (fun h => ?_) | refine Branch.negdec (fun h => ?_) (fun h => ?_) | refine Branch.neg (fun h => ?_) (fun h => ?_) | refine Branch.mk (fun h => ?_) (fun h => ?_) | (refine Side.mk ?_ ?_; · first | omega | decide) | (refine SideD.mk ?_ ?_; · first | omega | decide) | refine ⟨_, Nat.lt_succ_self _, To.refl (.inl ⟨rfl, ?_⟩)⟩ | refine itk hkl hx (by omega) ?_ | refine nth_nc hkn hy (by omega) ?_ | refine QCallA.of h20 (by simp [noLocL, hl, noLoc]) rfl ?_ | (refine Side.mk ?_ ?_; · (simp; done)) | fail)
      all_goals (conv => whnf)
      exact RetA.data rfl ⟨rfl, rfl⟩
     | succ k =>
      repeat' ((conv => whnf); first | refine Branch.ofT rfl ?_ | refine Branch.ofF rfl ?_ | refine Branch.negdec (fun _ => ?_) (fun h => absurd h hm) | refine Branch.ofT (decide_eq_true (by omega)) ?_ | refine Branch.ofF (decide_eq_false (by omega)) ?_ | refine Branch.dec (fun h => ?_) (fun h => ?_) | refine Branch.negdec (fun h => ?_) (fun h => ?_) | refine Branch.neg (fun h => ?_) (fun h => ?_) | refine Branch.mk (fun h => ?_) (fun h => ?_) | (refine Side.mk ?_ ?_; · first | omega | decide) | (refine SideD.mk ?_ ?_; · first | omega | decide) | refine ⟨_, Nat.lt_succ_self _, To.refl (.inl ⟨rfl, ?_⟩)⟩ | refine itk hkl hx (by omega) ?_ | refine nth_nc hkn hy (by omega) ?_ | refine QCallA.of h20 (by simp [noLocL, hl, noLoc]) rfl ?_ | (refine Side.mk ?_ ?_; · (simp; done)) | fail)
      all_goals (conv => whnf)
      exact RetA.data rfl ⟨rfl, rfl⟩
 · have hkl : k = ims.length := by omega
   have he0 : ec ims ns = 0 := by rw [he, List.drop_eq_nil_of_le (by omega)]; rfl
   rw [he0, if_pos rfl]
   obtain ⟨j, rfl⟩ : ∃ j, k = j + 1 := ⟨k - 1, by omega⟩
   repeat' ((conv => whnf); first | refine Branch.ofT rfl ?_ | refine Branch.ofF rfl ?_ | refine Branch.ofT (decide_eq_true (by omega)) ?_ | refine Branch.ofF (decide_eq_false (by omega)) ?_ | refine Branch.dec (fun h => ?_) (fun h => ?_) | refine Branch.negdec (fun h => ?_) (fun h => ?_) | refine Branch.neg (fun h => ?_) (fun h => ?_) | refine Branch.mk (fun h => ?_) (fun h => ?_) | (refine Side.mk ?_ ?_; · first | omega | decide) | (refine SideD.mk ?_ ?_; · first | omega | decide) | refine ⟨_, Nat.lt_succ_self _, To.refl (.inl ⟨rfl, ?_⟩)⟩ | (refine Side.mk ?_ ?_; · (simp; done)) | fail)
   all_goals (conv => whnf)
   have hmd : ∀ c ∈ mcs (ims.take (j + 1)) (ns.take (j + 1)), noLoc c = true := mcs_noLoc _ _ fun i h => hi i (List.mem_of_mem_take h)
   have e2 : ((mcs (ims.take (j + 1)) (ns.take (j + 1))).drop 0).take ((j + 1) * 47) = mcs ims ns := by
    rw [List.drop_zero, List.take_of_length_le (by rw [mcs_len _ _ (by simp; omega), List.length_take, Nat.min_eq_left (by omega)]; omega), List.take_of_length_le (by omega), List.take_of_length_le (by omega)]
   have e3 : AV.dslice (((mcs (ims.take (j + 1)) (ns.take (j + 1))).drop 0).take ((j + 1) * 47)) (j + 1) none = .dslice (mcs ims ns) ims.length none := by rw [e2, hkl]
   have hN := noLocL_of (mcs_noLoc ims ns hi)
   refine RetA.pub 3 (ds := mcs (ims.take (j + 1)) (ns.take (j + 1))) rfl hmd (RetA.data (v := .tuple [.agg [AV.dslice (((mcs (ims.take (j + 1)) (ns.take (j + 1))).drop 0).take ((j + 1) * 47)) (j + 1) none, .dslice (wc ws) ws.length none, nq ws.length, nq ims.length, .bool false, .nils, .nils, .nils, .nils], I 0]) ?_ ⟨?_, rfl⟩)
   · rw [e3]; simp [noLoc, noLocL, hN, hwl, nq_data]
   · rw [e3]; rfl
end Go.Proofs

namespace Go.Proofs
open Go Go.Eng
set_option maxRecDepth 100000
set_option maxHeartbeats 4000000

theorem c39 (bs : List Nat) (dn n : Nat) (hd : dn ≤ 64) (hb : bs.length = 128 * dn) (hn : n = 1 ∨ n = 2 ∨ n = 3 ∨ n = 4) : CallA Tryz.prog 39 [.agg (brd n (.dslice (bs.map B) dn none)), .agg (brd n (.dslice (bs.map B) dn none))] Heap.nil fun v H' => v = .bool true ∧ H' = Heap.nil := by
 have h58 := c58 bs dn hd hb
 rcases hn with rfl | rfl | rfl | rfl
 all_goals
  refine callA_of ok39 (Nat.le_of_ble_eq_true rfl) ?_
 · repeat' ((conv => whnf); first | refine Branch.ofT rfl ?_ | refine Branch.ofF rfl ?_ | refine Branch.dec (fun h => ?_) (fun h => ?_) | refine Branch.negdec (fun h => ?_) (fun h => ?_) | refine Branch.neg (fun h => ?_) (fun h => ?_) | refine Branch.mk (fun h => ?_) (fun h => ?_) | (refine Side.mk ?_ ?_; · first | omega | decide) | (refine SideD.mk ?_ ?_; · first | omega | decide) | refine ⟨_, Nat.lt_succ_self _, To.refl (.inl ⟨rfl, ?_⟩)⟩ | refine CallA.pure h58 rfl rfl ?_ | (refine Side.mk ?_ ?_; · (simp; done)) | fail)
   all_goals (conv => whnf)
   exact RetA.data rfl ⟨rfl, rfl⟩
 · repeat' ((conv => whnf); first | refine Branch.ofT rfl ?_ | refine Branch.ofF rfl ?_ | refine Branch.dec (fun h => ?_) (fun h => ?_) | refine Branch.negdec (fun h => ?_) (fun h => ?_) | refine Branch.neg (fun h => ?_) (fun h => ?_) | refine Branch.mk (fun h => ?_) (fun h => ?_) | (refine Side.mk ?_ ?_; · first | omega | decide) | (refine SideD.mk ?_ ?_; · first | omega | decide) | refine ⟨_, Nat.lt_succ_self _, To.refl (.inl ⟨rfl, ?_⟩)⟩ | refine CallA.pure h58 rfl rfl ?_ | (refine Side.mk ?_ ?_; · (simp; done)) | fail)
   all_goals (conv => whnf)
   exact RetA.data rfl ⟨rfl, rfl⟩
 · repeat' ((conv => whnf); first | refine Branch.ofT rfl ?_ | refine Branch.ofF rfl ?_ | refine Branch.dec (fun h => ?_) (fun h => ?_) | refine Branch.negdec (fun h => ?_) (fun h => ?_) | refine Branch.neg (fun h => ?_) (fun h => ?_) | refine Branch.mk (fun h => ?_) (fun h => ?_) | (refine Side.mk ?_ ?_; · first | omega | decide) | (refine SideD.mk ?_ ?_; · first | omega | decide) | refine ⟨_, Nat.lt_succ_self _, To.refl (.inl ⟨rfl, ?_⟩)⟩ | refine CallA.pure h58 rfl rfl ?_ | (refine Side.mk ?_ ?_; · (simp; done)) | fail)
   all_goals (conv => whnf)
   exact RetA.data rfl ⟨rfl, rfl⟩
 · repeat' ((conv => whnf); first | refine Branch.ofT rfl ?_ | refine Branch.ofF rfl ?_ | refine Branch.dec (fun h => ?_) (fun h => ?_) | refine Branch.negdec (fun h => ?_) (fun h => ?_) | refine Branch.neg (fun h => ?_) (fun h => ?_) | refine Branch.mk (fun h => ?_) (fun h => ?_) | (refine Side.mk ?_ ?_; · first | omega | decide) | (refine SideD.mk ?_ ?_; · first | omega | decide) | refine ⟨_, Nat.lt_succ_self _, To.refl (.inl ⟨rfl, ?_⟩)⟩ | refine CallA.pure h58 rfl rfl ?_ | (refine Side.mk ?_ ?_; · (simp; done)) | fail)
   all_goals (conv => whnf)
   exact RetA.data rfl ⟨rfl, rfl⟩
theorem c40 : CallA Tryz.prog 40 [.nils, .nils] Heap.nil fun v H' => v = .bool true ∧ H' = Heap.nil := CallA.computedR noOv_ok ntOk ntRf ntRt_ok 1000 60 (by kernel_rfl)
theorem cpus_len (e : Int) : ∀ k, (cpus e k).length = k * 30
 | 0 => rfl
 | k + 1 => by rw [cpus, List.length_append, cpus_len e k]; show k * 30 + 30 = _; omega
theorem cpus_at (e : Int) : ∀ (k j : Nat), j < k → ((cpus e k).drop (j * 30)).take 30 = cpuC e j
 | k + 1, j, h => by
  rw [cpus, List.drop_append, cpus_len]
  by_cases hj : j < k
  · rw [List.take_append_of_le_length (by rw [List.length_drop, cpus_len]; omega), cpus_at e k j hj]
  · have : j = k := by omega
    subst this
    rw [List.drop_eq_nil_of_le (by rw [cpus_len]; omega), Nat.sub_self, List.nil_append]; rfl
theorem tkC {e : Int} {k j off : Nat} {K : List AV → Prop} (h : j < k) (ho : off = j * 30) (hk : K (cpuC e j)) : takeK 30 ((cpus e k).drop off) K := by
 subst ho
 rw [takeK_eq _ _ _ (by rw [List.length_drop, cpus_len]; omega), cpus_at e k j h]; exact hk
def mB (e : Int) (k p dn : Nat) (M bs : List Nat) (cap : Option Nat) : List AV := .dslice (cpus e k) k none :: .dslice (M.map B) p cap :: (brd k (.dslice (bs.map B) dn none) ++ [.nils, I 0])
def L25 (e : Int) (k p dn : Nat) (M bs : List Nat) (cap : Option Nat) (m : Nat) (fr : Fr) (H : Heap) : Prop := ∃ j : Nat, j ≤ k ∧ m = k - j ∧ fr = [(2, .ptr 0 0), (3, .ptr 1 0), (5, I j)] ∧ H = ⟨2, [(0, .cells (mB e k p dn M bs cap)), (1, .cells (mB e k p dn M bs cap))]⟩
theorem c25 (e : Int) (k p dn : Nat) (M bs : List Nat) (cap : Option Nat) (hp : p ≤ 64) (hM : M.length = p * 128) (hd : dn ≤ 64) (hb : bs.length = 128 * dn) (hn : k = 1 ∨ k = 2 ∨ k = 3 ∨ k = 4) : CallA Tryz.prog 25 [.agg (mB e k p dn M bs cap), .agg (mB e k p dn M bs cap)] Heap.nil fun v H' => v = .bool true ∧ H' = Heap.nil := by
 have h39 := c39 bs dn k hd hb hn
 have h38 := c38 M p cap hp hM
 have hdd : dataB (.cells (mB e k p dn M bs cap)) := noLocL_all rfl
 refine callA_of ok25 (Nat.le_of_ble_eq_true rfl) ?_
 repeat' ((conv => whnf); first | refine Branch.ofT rfl ?_ | refine Branch.ofF rfl ?_ | refine Branch.negdec (fun h => absurd rfl h) (fun _ => ?_) | refine Branch.dec (fun h => ?_) (fun h => ?_) | refine Branch.negdec (fun h => ?_) (fun h => ?_) | refine Branch.neg (fun h => ?_) (fun h => ?_) | refine Branch.mk (fun h => ?_) (fun h => ?_) | (refine Side.mk ?_ ?_; · first | omega | decide) | (refine SideD.mk ?_ ?_; · first | omega | decide) | refine ⟨_, Nat.lt_succ_self _, To.refl (.inl ⟨rfl, ?_⟩)⟩ | refine CallA.pure h38 rfl rfl ?_ | refine CallA.pure h39 rfl rfl ?_ | refine CallA.pure c40 rfl rfl ?_ | (refine Side.mk ?_ ?_; · (simp; done)) | fail)
 all_goals (conv => whnf)
 refine ⟨L25 e k p dn M bs cap, k, To.gc [(0, true), (1, true)] [2, 3, 5] rfl ⟨hdd, hdd, trivial⟩ ⟨0, by omega, by omega, rfl, rfl⟩, ?_⟩
 rintro m fr H ⟨j, hj, rfl, rfl, rfl⟩
 by_cases hjl : j < k
 · repeat' ((conv => whnf); first | refine Branch.ofT rfl ?_ | refine Branch.ofF rfl ?_ | refine Branch.ofT (decide_eq_true (by omega)) ?_ | refine Branch.ofF (decide_eq_false (by omega)) ?_ | refine Branch.dec (fun h => ?_) (fun h => ?_) | refine Branch.negdec (fun h => ?_) (fun h => ?_) | refine Branch.neg (fun h => ?_) (fun h => ?_) | refine Branch.mk (fun h => ?_) (fun h => ?_) | (refine Side.mk ?_ ?_; · first | omega | decide) | (refine SideD.mk ?_ ?_; · first | omega | decide) | refine ⟨_, Nat.lt_succ_self _, To.refl (.inl ⟨rfl, ?_⟩)⟩ | refine tkC hjl (by omega) ?_ | (refine Side.mk ?_ ?_; · (simp; done)) | fail)
   all_goals (conv => whnf)
   all_goals first | (exfalso; simp at h; done) | exact ⟨k - (j + 1), by omega, To.gc [(0, true), (1, true)] [2, 3, 5] rfl ⟨hdd, hdd, trivial⟩ ⟨j + 1, by omega, rfl, rfl, rfl⟩⟩
 · repeat' ((conv => whnf); first | refine Branch.ofT rfl ?_ | refine Branch.ofF rfl ?_ | refine Branch.ofT (decide_eq_true (by omega)) ?_ | refine Branch.ofF (decide_eq_false (by omega)) ?_ | refine Branch.dec (fun h => ?_) (fun h => ?_) | refine Branch.negdec (fun h => ?_) (fun h => ?_) | refine Branch.neg (fun h => ?_) (fun h => ?_) | refine Branch.mk (fun h => ?_) (fun h => ?_) | (refine Side.mk ?_ ?_; · first | omega | decide) | (refine SideD.mk ?_ ?_; · first | omega | decide) | refine ⟨_, Nat.lt_succ_self _, To.refl (.inl ⟨rfl, ?_⟩)⟩ | (refine Side.mk ?_ ?_; · (simp; done)) | fail)
   all_goals (conv => whnf)
   all_goals first | (exfalso; omega) | exact RetA.data rfl ⟨rfl, rfl⟩
end Go.Proofs

namespace Go.Proofs
open Go Go.Eng
set_option maxRecDepth 100000
set_option maxHeartbeats 4000000

def isT : Option AV → Bool
 | some (.bool true) => true
 | _ => false
theorem isT_eq {o : Option AV} (h : isT o = true) : o = some (.bool true) := by
 unfold isT at h
 split at h
 · rfl
 · cases h
theorem all22 : (List.range 17).all (fun n => isT (resultR noOv ntTbl ntRt 1000 60 22 [nq n, nq n])) = true := by kernel_rfl
theorem all23 : (List.range 9).all (fun n => isT (resultR noOv ntTbl ntRt 1000 60 23 [nq n, nq n])) = true := by kernel_rfl
theorem c22 (n : Nat) (h : n ≤ 16) : CallA Tryz.prog 22 [nq n, nq n] Heap.nil fun v H' => v = .bool true ∧ H' = Heap.nil :=
 CallA.computedR noOv_ok ntOk ntRf ntRt_ok 1000 60 (isT_eq (List.all_eq_true.1 all22 n (by simp; omega)))
theorem c23 (n : Nat) (h : n ≤ 8) : CallA Tryz.prog 23 [nq n, nq n] Heap.nil fun v H' => v = .bool true ∧ H' = Heap.nil :=
 CallA.computedR noOv_ok ntOk ntRf ntRt_ok 1000 60 (isT_eq (List.all_eq_true.1 all23 n (by simp; omega)))
theorem c24 : CallA Tryz.prog 24 [.nils, .nils] Heap.nil fun v H' => v = .bool true ∧ H' = Heap.nil := CallA.computedR noOv_ok ntOk ntRf ntRt_ok 1000 60 (by kernel_rfl)
theorem c8z : CallA Tryz.prog 8 [.agg n0, .agg n0] Heap.nil fun v H' => v = .bool true ∧ H' = Heap.nil := CallA.computedR noOv_ok ntOk ntRf ntRt_ok 1000 60 (by kernel_rfl)
def cutC (ws : List Wr) : List AV := [.nils, .dslice (wc ws) ws.length none, .nils]
def L13 (ws : List Wr) (m : Nat) (fr : Fr) (H : Heap) : Prop := ∃ k : Nat, k ≤ ws.length ∧ m = ws.length - k ∧ fr = [(2, .ptr 0 0), (3, .ptr 1 0), (6, I k)] ∧ H = ⟨2, [(0, .cells (cutC ws)), (1, .cells (cutC ws))]⟩
theorem c13 (ws : List Wr) (hl : ws.length ≤ 100) : CallA Tryz.prog 13 [.agg (cutC ws), .agg (cutC ws)] Heap.nil fun v H' => v = .bool true ∧ H' = Heap.nil := by
 have hdd : dataB (.cells (cutC ws)) := noLocL_all rfl
 refine callA_of ok13 (Nat.le_of_ble_eq_true rfl) ?_
 repeat' ((conv => whnf); first | refine Branch.ofT rfl ?_ | refine Branch.ofF rfl ?_ | refine Branch.negdec (fun h => absurd rfl h) (fun _ => ?_) | refine Branch.dec (fun h => ?_) (fun h => ?_) | refine Branch.negdec (fun h => ?_) (fun h => ?_) | refine Branch.neg (fun h => ?_) (fun h => ?_) | refine Branch.mk (fun h => ?_) (fun h => ?_) | (refine Side.mk ?_ ?_; · first | omega | decide) | (refine SideD.mk ?_ ?_; · first | omega | decide) | refine ⟨_, Nat.lt_succ_self _, To.refl (.inl ⟨rfl, ?_⟩)⟩ | (refine Side.mk ?_ ?_; · (simp; done)) | fail)
 all_goals (conv => whnf)
 refine LoopA.unroll _ _ _ 1 ?_
 repeat' ((conv => whnf); first | refine Branch.ofT rfl ?_ | refine Branch.ofF rfl ?_ | refine Branch.dec (fun h => ?_) (fun h => ?_) | refine Branch.negdec (fun h => ?_) (fun h => ?_) | refine Branch.neg (fun h => ?_) (fun h => ?_) | refine Branch.mk (fun h => ?_) (fun h => ?_) | (refine Side.mk ?_ ?_; · first | omega | decide) | (refine SideD.mk ?_ ?_; · first | omega | decide) | refine ⟨_, Nat.lt_succ_self _, To.refl (.inl ⟨rfl, ?_⟩)⟩ | (refine Side.mk ?_ ?_; · (simp; done)) | fail)
 all_goals (conv => whnf)
 refine ⟨L13 ws, ws.length, To.gc [(0, true), (1, true)] [2, 3, 6] rfl ⟨hdd, hdd, trivial⟩ ⟨0, by omega, by omega, rfl, rfl⟩, ?_⟩
 rintro m fr H ⟨k, hk, rfl, rfl, rfl⟩
 by_cases hkl : k < ws.length
 · generalize hx : ws[k] = x
   obtain ⟨a, b⟩ := x
   repeat' ((conv => whnf); first | refine Branch.ofT rfl ?_ | refine Branch.ofF rfl ?_ | refine Branch.ofT (decide_eq_true (by omega)) ?_ | refine Branch.ofF (decide_eq_false (by omega)) ?_ | refine Branch.dec (fun h => ?_) (fun h => ?_) | refine Branch.negdec (fun h => ?_) (fun h => ?_) | refine Branch.neg (fun h => ?_) (fun h => ?_) | refine Branch.mk (fun h => ?_) (fun h => ?_) | (refine Side.mk ?_ ?_; · first | omega | decide) | (refine SideD.mk ?_ ?_; · first | omega | decide) | refine ⟨_, Nat.lt_succ_self _, To.refl (.inl ⟨rfl, ?_⟩)⟩ | refine wtk hkl hx (by omega) ?_ | (refine Side.mk ?_ ?_; · (simp; done)) | fail)
   all_goals (conv => whnf)
   all_goals first | (exfalso; simp at h; done) | exact ⟨ws.length - (k + 1), by omega, To.gc [(0, true), (1, true)] [2, 3, 6] rfl ⟨hdd, hdd, trivial⟩ ⟨k + 1, by omega, rfl, rfl, rfl⟩⟩
 · have hkl : k = ws.length := by omega
   subst hkl
   repeat' ((conv => whnf); first | refine Branch.ofT rfl ?_ | refine Branch.ofF rfl ?_ | refine Branch.ofT (decide_eq_true (by omega)) ?_ | refine Branch.ofF (decide_eq_false (by omega)) ?_ | refine Branch.dec (fun h => ?_) (fun h => ?_) | refine Branch.negdec (fun h => ?_) (fun h => ?_) | refine Branch.neg (fun h => ?_) (fun h => ?_) | refine Branch.mk (fun h => ?_) (fun h => ?_) | (refine Side.mk ?_ ?_; · first | omega | decide) | (refine SideD.mk ?_ ?_; · first | omega | decide) | refine ⟨_, Nat.lt_succ_self _, To.refl (.inl ⟨rfl, ?_⟩)⟩ | refine LoopA.unroll _ _ _ 1 ?_ | (refine Side.mk ?_ ?_; · (simp; done)) | fail)
   all_goals (conv => whnf)
   exact RetA.data rfl ⟨rfl, rfl⟩
end Go.Proofs

namespace Go.Proofs
open Go Go.Eng
set_option maxRecDepth 100000
set_option maxHeartbeats 4000000

def n1 (e : Int) : List AV := n0 ++ [I 0, I e]
theorem c7a (ims : List Im) (ns : List Int) (ws : List Wr) (hl : limB ims ws) (hb : ims.length ≤ 100 ∧ ns.length ≤ 100 ∧ ws.length ≤ 100) : CallA Tryz.prog 7 (a6 ims ns ws) Heap.nil fun v H' => v = .agg (n1 2) ∧ H' = Heap.nil := by
 refine callA_of ok7 (Nat.le_of_ble_eq_true rfl) ?_
 unfold limB at hl
 repeat' ((conv => whnf); first | refine Branch.ofT rfl ?_ | refine Branch.ofF rfl ?_ | refine Branch.ofT (decide_eq_true (by omega)) ?_ | refine Branch.ofF (decide_eq_false (by omega)) ?_ | refine Branch.dec (fun h => ?_) (fun h => ?_) | refine Branch.negdec (fun h => ?_) (fun h => ?_) | refine Branch.neg (fun h => ?_) (fun h => ?_) | refine Branch.mk (fun h => ?_) (fun h => ?_) | (refine Side.mk ?_ ?_; · first | omega | decide) | (refine SideD.mk ?_ ?_; · first | omega | decide) | refine ⟨_, Nat.lt_succ_self _, To.refl (.inl ⟨rfl, ?_⟩)⟩ | (refine Side.mk ?_ ?_; · (simp; done)) | fail)
 all_goals (conv => whnf)
 all_goals exact RetA.data rfl ⟨rfl, rfl⟩
theorem c7b (ims : List Im) (ns : List Int) (ws : List Wr) (hl : ¬ limB ims ws) (hb : ns.length ≤ 100) (hn : ns.length ≠ ims.length) : CallA Tryz.prog 7 (a6 ims ns ws) Heap.nil fun v H' => v = .agg (n1 1) ∧ H' = Heap.nil := by
 refine callA_of ok7 (Nat.le_of_ble_eq_true rfl) ?_
 unfold limB at hl
 repeat' ((conv => whnf); first | refine Branch.ofT rfl ?_ | refine Branch.ofF rfl ?_ | refine Branch.ofT (decide_eq_true (by omega)) ?_ | refine Branch.ofF (decide_eq_false (by omega)) ?_ | refine Branch.dec (fun h => ?_) (fun h => ?_) | refine Branch.negdec (fun h => ?_) (fun h => ?_) | refine Branch.neg (fun h => ?_) (fun h => ?_) | refine Branch.mk (fun h => ?_) (fun h => ?_) | (refine Side.mk ?_ ?_; · first | omega | decide) | (refine SideD.mk ?_ ?_; · first | omega | decide) | refine ⟨_, Nat.lt_succ_self _, To.refl (.inl ⟨rfl, ?_⟩)⟩ | (refine Side.mk ?_ ?_; · (simp; done)) | fail)
 all_goals (conv => whnf)
 all_goals first | (exfalso; omega) | exact RetA.data rfl ⟨rfl, rfl⟩
def L7w (ims : List Im) (ns : List Int) (ws : List Wr) (m : Nat) (fr : Fr) (H : Heap) : Prop := ∃ k : Nat, k ≤ ws.length ∧ m = ws.length - k ∧ ws.any (wrg ims.length) = (ws.drop k).any (wrg ims.length) ∧ fr = [(0, .dslice (ic ims) ims.length none), (1, .dslice (nc ns) ns.length none), (2, .dslice (wc ws) ws.length none), (6, .ptr 0 0), (7, I k)] ∧ H = ⟨1, [(0, .cells (n1 0))]⟩
def nb7 (x : AV) (ims : List Im) (cs : List AV) (n q : Nat) : AB := .cells [x, .dslice cs n none, nq q, nq ims.length, .bool false, .nils, .nils, .nils, .nils]
theorem nb7_data (ims : List Im) (cs : List AV) (n q : Nat) {x : AV} (h : noLoc x = true) (hc : noLocL cs = true) : dataB (nb7 x ims cs n q) := by
 apply noLocL_all
 simp [noLocL, noLoc, h, hc, nq_data]
def HM (ims : List Im) (ns : List Int) (cs : List AV) (n q : Nat) : Nat → Heap
 | 0 => ⟨2, [(0, .cells (n1 0)), (1, nb7 .nils ims cs n q)]⟩
 | k + 1 => ⟨3, [(0, .cells (n1 0)), (1, nb7 (.slice 2 0 (k + 1) none 47) ims cs n q), (2, .cells (mcs (ims.take (k + 1)) (ns.take (k + 1))))]⟩
theorem HM_succ {ims : List Im} {ns : List Int} {ws : List AV} {n q : Nat} {k : Nat} {cs : List AV} (h : mcs (ims.take (k + 1)) (ns.take (k + 1)) = cs) : HM ims ns ws n q (k + 1) = ⟨3, [(0, .cells (n1 0)), (1, nb7 (.slice 2 0 (k + 1) none 47) ims ws n q), (2, .cells cs)]⟩ := by
 subst h; rfl
def L7 (ims : List Im) (ns : List Int) (ws : List Wr) (cs : List AV) (n q : Nat) (m : Nat) (fr : Fr) (H : Heap) : Prop := ∃ k : Nat, k ≤ ims.length ∧ m = ims.length - k ∧ ec ims ns = ec (ims.drop k) (ns.drop k) ∧ fr = [(0, .dslice (ic ims) ims.length none), (1, .dslice (nc ns) ns.length none), (2, .dslice (wc ws) ws.length none), (6, .ptr 0 0), (9, .ptr 1 0), (10, I k)] ∧ H = HM ims ns cs n q k
theorem c7t (ims : List Im) (ns : List Int) (ws : List Wr) (hi : ∀ i ∈ ims, i.ok) (hl : ¬ limB ims ws) (hn : ns.length = ims.length) : CallA Tryz.prog 7 (a6 ims ns ws) Heap.nil fun v H' => v = .agg (if ws.any (wrg ims.length) = true then n1 1 else if ec ims ns = 0 then net ims ns ws ++ [I 0, I 0] else n1 (ec ims ns)) ∧ H' = Heap.nil := by
 refine callA_of ok7 (Nat.le_of_ble_eq_true rfl) ?_
 unfold limB at hl
 have hnI : (ns.length : Int) = ims.length := by omega
 have hwl := noLocL_of (wc_noLoc ws)
 repeat' ((conv => whnf); first | refine Branch.ofT rfl ?_ | refine Branch.ofF rfl ?_ | refine Branch.negdec (fun h => absurd hnI h) (fun _ => ?_) | refine Branch.ofT (decide_eq_true (by omega)) ?_ | refine Branch.ofF (decide_eq_false (by omega)) ?_ | refine Branch.dec (fun h => ?_) (fun h => ?_) | refine Branch.negdec (fun h => ?_) (fun h => ?_) | refine Branch.neg (fun h => ?_) (fun h => ?_) | refine Branch.mk (fun h => ?_) (fun h => ?_) | (refine Side.mk ?_ ?_; · first | omega | decide) | (refine SideD.mk ?_ ?_; · first | omega | decide) | refine ⟨_, Nat.lt_succ_self _, To.refl (.inl ⟨rfl, ?_⟩)⟩ | (refine Side.mk ?_ ?_; · (simp; done)) | fail)
 all_goals (conv => whnf)
 refine ⟨L7w ims ns ws, ws.length, To.gc [(0, true)] [0, 1, 2, 6, 7] rfl ⟨dat rfl, trivial⟩ ⟨0, by omega, by omega, by rw [List.drop_zero], rfl, rfl⟩, ?_⟩
 rintro m fr H ⟨k, hk, rfl, ha, rfl, rfl⟩
 by_cases hkl : k < ws.length
 · rw [any_at hkl] at ha
   generalize hx : ws[k] = x at ha
   obtain ⟨a, b⟩ := x
   cases hb : wrg ims.length ⟨a, b⟩ with
   | true =>
    have hb' := of_decide_eq_true hb
    simp only at hb'
    rw [if_pos (by rw [ha, hb]; rfl)]
    repeat' ((conv => whnf); first | refine Branch.ofT rfl ?_ | refine Branch.ofF rfl ?_ | refine Branch.ofT (decide_eq_true (by omega)) ?_ | refine Branch.ofF (decide_eq_false (by omega)) ?_ | refine Branch.dec (fun h => ?_) (fun h => ?_) | refine Branch.negdec (fun h => ?_) (fun h => ?_) | refine Branch.neg (fun h => ?_) (fun h => ?_) | refine Branch.mk (fun h => ?_) (fun h => ?_) | (refine Side.mk ?_ ?_; · first | omega | decide) | (refine SideD.mk ?_ ?_; · first | omega | decide) | refine ⟨_, Nat.lt_succ_self _, To.refl (.inl ⟨rfl, ?_⟩)⟩ | refine wtk hkl hx (by omega) ?_ | (refine Side.mk ?_ ?_; · (simp; done)) | fail)
    all_goals (conv => whnf)
    all_goals first | (exfalso; omega) | exact RetA.data rfl ⟨rfl, rfl⟩
   | false =>
    have hb' := of_decide_eq_false hb
    simp only at hb'
    rw [hb, Bool.false_or] at ha
    repeat' ((conv => whnf); first | refine Branch.ofT rfl ?_ | refine Branch.ofF rfl ?_ | refine Branch.ofT (decide_eq_true (by omega)) ?_ | refine Branch.ofF (decide_eq_false (by omega)) ?_ | refine Branch.dec (fun h => ?_) (fun h => ?_) | refine Branch.negdec (fun h => ?_) (fun h => ?_) | refine Branch.neg (fun h => ?_) (fun h => ?_) | refine Branch.mk (fun h => ?_) (fun h => ?_) | (refine Side.mk ?_ ?_; · first | omega | decide) | (refine SideD.mk ?_ ?_; · first | omega | decide) | refine ⟨_, Nat.lt_succ_self _, To.refl (.inl ⟨rfl, ?_⟩)⟩ | refine wtk hkl hx (by omega) ?_ | (refine Side.mk ?_ ?_; · (simp; done)) | fail)
    all_goals (conv => whnf)
    all_goals first | (exfalso; omega) | exact ⟨ws.length - (k + 1), by omega, To.gc [(0, true)] [0, 1, 2, 6, 7] rfl ⟨dat rfl, trivial⟩ ⟨k + 1, by omega, rfl, ha, rfl, rfl⟩⟩
 · have hkl : k = ws.length := by omega
   rw [List.drop_eq_nil_of_le (by omega)] at ha
   rw [if_neg (by rw [ha]; exact Bool.false_ne_true)]
   clear ha
   have ht := wtake ws
   have hln : ws.length * 2 ≤ (wc ws).length := by rw [wc_len]; omega
   repeat' ((conv => whnf); first | refine Branch.ofT rfl ?_ | refine Branch.ofF rfl ?_ | refine Branch.ofT (decide_eq_true (by omega)) ?_ | refine Branch.ofF (decide_eq_false (by omega)) ?_ | refine Branch.dec (fun h => ?_) (fun h => ?_) | refine Branch.negdec (fun h => ?_) (fun h => ?_) | refine Branch.neg (fun h => ?_) (fun h => ?_) | refine Branch.mk (fun h => ?_) (fun h => ?_) | (refine Side.mk ?_ ?_; · first | omega | decide) | (refine SideD.mk ?_ ?_; · first | omega | decide) | refine ⟨_, Nat.lt_succ_self _, To.refl (.inl ⟨rfl, ?_⟩)⟩ | refine Side.mk hln ?_ | refine Side.mk ⟨rfl, rfl, rfl, by unfold fits; omega, fun c hc => wc_scal ws c (List.mem_of_mem_take hc)⟩ ?_ | (refine Side.mk ?_ ?_; · (simp; done)) | fail)
   all_goals (conv => whnf)
   obtain ⟨cs, hcs⟩ : ∃ cs, cs = ((((wc ws).take (ws.length * 2)).drop 0).take ((0 + ws.length) * 2)) := ⟨_, rfl⟩
   obtain ⟨n', hn'⟩ : ∃ n', n' = 0 + ws.length := ⟨_, rfl⟩
   have hc1 : cs = wc ws := by rw [hcs, ht, List.drop_zero, Nat.zero_add, ht]
   have hn1 : n' = ws.length := by omega
   have hcd : noLocL cs = true := by rw [hc1]; exact hwl
   have hds := rep_nils
   have hwd : ∀ c ∈ (wc ws).take (ws.length * 2), noLoc c = true := by rw [ht]; exact wc_noLoc ws
   refine ⟨L7 ims ns ws cs n' ws.length, ims.length, To.pub 3 [0, 1, 2, 6, 9, 10] (ds := (wc ws).take (ws.length * 2)) rfl hwd (To.pub 6 [0, 1, 2, 6, 9, 10] (ds := rep [.nils] ws.length) (Eq.trans rfl (congrArg AB.cells (pubL_data (k := 3) (ds := (wc ws).take (ws.length * 2)) (hds ws.length)))) (hds _) (To.pub 9 [0, 1, 2, 6, 9, 10] (ds := rep [.nils] ims.length) (Eq.trans (b := AB.cells (pubL 6 (rep [.nils] ws.length) (pubL 3 ((wc ws).take (ws.length * 2)) (rep [.nils] ims.length)))) rfl (congrArg AB.cells (Eq.trans (congrArg (pubL 6 (rep [.nils] ws.length)) (pubL_data (hds ims.length))) (pubL_data (hds ims.length))))) (hds _) (To.gc [(0, true), (11, true)] [0, 1, 2, 6, 9, 10] rfl ⟨dat rfl, ?_, trivial⟩ ⟨0, by omega, by omega, by rw [List.drop_zero, List.drop_zero], rfl, by subst hcs; subst hn'; rfl⟩))), ?_⟩
   · subst hcs; subst hn'; exact nb7_data ims _ _ ws.length (x := .nils) rfl hcd
   rintro m fr H ⟨k, hk, rfl, he, rfl, rfl⟩
   by_cases hkl : k < ims.length
   · rw [ec_at hkl (by omega)] at he
     have hkn : k < ns.length := by omega
     have hio := hi _ (List.getElem_mem hkl)
     have hmt := mcs_take hkl hkn
     generalize hx : ims[k] = i at he hio hmt
     generalize hy : ns[k] = n at he hmt
     have hl := Im.noLoc hio
     by_cases hm : mres i n = 0
     · rw [if_pos hm] at he
       have h20 := z21 i n hio hm
       have hms : ∀ c ∈ mM i n, scal c = true := mM_scal n
       have hmd : ∀ k, ∀ c ∈ mcs (ims.take k) (ns.take k), noLoc c = true := fun k => mcs_noLoc _ _ fun i h => hi i (List.mem_of_mem_take h)
       have hd1 := hmd (k + 1)
       rw [hmt] at hd1
       have hv : noLoc (.agg (mM i n ++ t73 0)) = true := by
        have := dR_data hio
        simp [mM, brd, t73, noLocL, noLoc, noLocL_of (cpus_noLoc _ _), memC_data i i.sg.length _ List.mem_cons_self, this]
       cases k with
       | zero =>
        repeat' ((conv => whnf); first | refine Branch.ofT rfl ?_ | refine Branch.ofF rfl ?_ | refine Branch.ofT (decide_eq_true (by omega)) ?_ | refine Branch.ofF (decide_eq_false (by omega)) ?_ | refine Branch.dec (fun h => ?_) (fun h => ?_) | refine Branch.negdec (fun h => ?_) (fun h => ?_) | refine Branch.neg (fun h => ?_) (fun h => ?_) | refine Branch.mk (fun h => ?_) (fun h => ?_) | (refine Side.mk ?_ ?_; · first | omega | decide) | (refine SideD.mk ?_ ?_; · first | omega | decide) | refine ⟨_, Nat.lt_succ_self _, To.refl (.inl ⟨rfl, ?_⟩)⟩ | refine itk hkl hx (by omega) ?_ | refine nth_nc hkn hy (by omega) ?_ | refine QCallA.of h20 (by simp [noLocL, hl, noLoc]) hv ?_ | refine Side.mk ⟨by unfold fits; omega, fun c hc => hms c (List.mem_of_mem_take hc)⟩ ?_ | (refine Side.mk ?_ ?_; · (simp; done)) | fail)
        all_goals (conv => whnf)
        exact ⟨ims.length - 1, by omega, To.gc [(0, true), (1, false), (13, true)] [0, 1, 2, 6, 9, 10] rfl ⟨dat rfl, hd1, trivial⟩ ⟨1, by omega, rfl, he, rfl, Eq.trans rfl (HM_succ hmt).symm⟩⟩
       | succ k =>
        have hml : (mcs (ims.take (k + 1)) (ns.take (k + 1))).length = (k + 1) * 47 := by
         rw [mcs_len _ _ (by simp; omega), List.length_take, Nat.min_eq_left (by omega)]
        repeat' ((conv => whnf); first | refine Branch.ofT rfl ?_ | refine Branch.ofF rfl ?_ | refine Branch.ofT (decide_eq_true (by omega)) ?_ | refine Branch.ofF (decide_eq_false (by omega)) ?_ | refine Branch.dec (fun h => ?_) (fun h => ?_) | refine Branch.negdec (fun h => ?_) (fun h => ?_) | refine Branch.neg (fun h => ?_) (fun h => ?_) | refine Branch.mk (fun h => ?_) (fun h => ?_) | (refine Side.mk ?_ ?_; · first | omega | decide) | (refine SideD.mk ?_ ?_; · first | omega | decide) | refine ⟨_, Nat.lt_succ_self _, To.refl (.inl ⟨rfl, ?_⟩)⟩ | refine itk hkl hx (by omega) ?_ | refine nth_nc hkn hy (by omega) ?_ | refine QCallA.of h20 (by simp [noLocL, hl, noLoc]) hv ?_ | refine Side.mk ⟨rfl, rfl, hml, by unfold fits; omega, fun c hc => hms c (List.mem_of_mem_take hc)⟩ ?_ | (refine Side.mk ?_ ?_; · (simp; done)) | fail)
        all_goals (conv => whnf)
        exact ⟨ims.length - (k + 1 + 1), by omega, To.gc [(0, true), (1, false), (14, true)] [0, 1, 2, 6, 9, 10] rfl ⟨dat rfl, hd1, trivial⟩ ⟨k + 1 + 1, by omega, rfl, he, rfl, Eq.trans rfl (HM_succ hmt).symm⟩⟩
     · rw [if_neg hm] at he
       have h20 := z21e i n hio rfl hm
       generalize hc : mres i n = c at h20 he hm
       rw [he, if_neg hm]
       cases k with
       | zero =>
        repeat' ((conv => whnf); first | refine Branch.ofT rfl ?_ | refine Branch.ofF rfl ?_ | refine Branch.negdec (fun _ => ?_) (fun h => absurd h hm) | refine Branch.ofT (decide_eq_true (by omega)) ?_ | refine Branch.ofF (decide_eq_false (by omega)) ?_ | refine Branch.dec (fun h => ?_) (fun h => ?_) | refine Branch.negdec (fun h => ?_) (fun h => ?_) | refine Branch.neg (fun h => ?_) (fun h => ?_) | refine Branch.mk (fun h => ?_) (fun h => ?_) | (refine Side.mk ?_ ?_; · first | omega | decide) | (refine SideD.mk ?_ ?_; · first | omega | decide) | refine ⟨_, Nat.lt_succ_self _, To.refl (.inl ⟨rfl, ?_⟩)⟩ | refine itk hkl hx (by omega) ?_ | refine nth_nc hkn hy (by omega) ?_ | refine QCallA.of h20 (by simp [noLocL, hl, noLoc]) rfl ?_ | (refine Side.mk ?_ ?_; · (simp; done)) | fail)
        all_goals (conv => whnf)
        exact RetA.data rfl ⟨rfl, rfl⟩
       | succ k =>
        repeat' ((conv => whnf); first | refine Branch.ofT rfl ?_ | refine Branch.ofF rfl ?_ | refine Branch.negdec (fun _ => ?_) (fun h => absurd h hm) | refine Branch.ofT (decide_eq_true (by omega)) ?_ | refine Branch.ofF (decide_eq_false (by omega)) ?_ | refine Branch.dec (fun h => ?_) (fun h => ?_) | refine Branch.negdec (fun h => ?_) (fun h => ?_) | refine Branch.neg (fun h => ?_) (fun h => ?_) | refine Branch.mk (fun h => ?_) (fun h => ?_) | (refine Side.mk ?_ ?_; · first | omega | decide) | (refine SideD.mk ?_ ?_; · first | omega | decide) | refine ⟨_, Nat.lt_succ_self _, To.refl (.inl ⟨rfl, ?_⟩)⟩ | refine itk hkl hx (by omega) ?_ | refine nth_nc hkn hy (by omega) ?_ | refine QCallA.of h20 (by simp [noLocL, hl, noLoc]) rfl ?_ | (refine Side.mk ?_ ?_; · (simp; done)) | fail)
        all_goals (conv => whnf)
        exact RetA.data rfl ⟨rfl, rfl⟩
   · have hkl : k = ims.length := by omega
     have he0 : ec ims ns = 0 := by rw [he, List.drop_eq_nil_of_le (by omega)]; rfl
     rw [he0, if_pos rfl]
     obtain ⟨j, rfl⟩ : ∃ j, k = j + 1 := ⟨k - 1, by omega⟩
     repeat' ((conv => whnf); first | refine Branch.ofT rfl ?_ | refine Branch.ofF rfl ?_ | refine Branch.ofT (decide_eq_true (by omega)) ?_ | refine Branch.ofF (decide_eq_false (by omega)) ?_ | refine Branch.dec (fun h => ?_) (fun h => ?_) | refine Branch.negdec (fun h => ?_) (fun h => ?_) | refine Branch.neg (fun h => ?_) (fun h => ?_) | refine Branch.mk (fun h => ?_) (fun h => ?_) | (refine Side.mk ?_ ?_; · first | omega | decide) | (refine SideD.mk ?_ ?_; · first | omega | decide) | refine ⟨_, Nat.lt_succ_self _, To.refl (.inl ⟨rfl, ?_⟩)⟩ | (refine Side.mk ?_ ?_; · (simp; done)) | fail)
     all_goals (conv => whnf)
     have hmd : ∀ c ∈ mcs (ims.take (j + 1)) (ns.take (j + 1)), noLoc c = true := mcs_noLoc _ _ fun i h => hi i (List.mem_of_mem_take h)
     have e2 : ((mcs (ims.take (j + 1)) (ns.take (j + 1))).drop 0).take ((j + 1) * 47) = mcs ims ns := by
      rw [List.drop_zero, List.take_of_length_le (by rw [mcs_len _ _ (by simp; omega), List.length_take, Nat.min_eq_left (by omega)]; omega), List.take_of_length_le (by omega), List.take_of_length_le (by omega)]
     have e3 : AV.dslice (((mcs (ims.take (j + 1)) (ns.take (j + 1))).drop 0).take ((j + 1) * 47)) (j + 1) none = .dslice (mcs ims ns) ims.length none := by rw [e2, hkl]
     have hN := noLocL_of (mcs_noLoc ims ns hi)
     refine RetA.pub 2 (ds := mcs (ims.take (j + 1)) (ns.take (j + 1))) rfl hmd (RetA.data (v := .agg [AV.dslice (((mcs (ims.take (j + 1)) (ns.take (j + 1))).drop 0).take ((j + 1) * 47)) (j + 1) none, .dslice cs n' none, nq ws.length, nq ims.length, .bool false, .nils, .nils, .nils, .nils, I 0, I 0]) ?_ ⟨?_, rfl⟩)
     · rw [e3]; simp [noLoc, noLocL, hN, hcd, nq_data]
     · rw [e3, hc1, hn1]; rfl
end Go.Proofs

namespace Go.Proofs
open Go Go.Eng
set_option maxRecDepth 100000
set_option maxHeartbeats 4000000
def Im.byt (i : Im) : Prop := ∃ bs : List Nat, i.dc = bs.map B
theorem z25 (i : Im) (n : Int) (h : i.ok) (hb : i.byt) (hm : mres i n = 0) : CallA Tryz.prog 25 [.agg (mM i n), .agg (mM i n)] Heap.nil fun v H' => v = .bool true ∧ H' = Heap.nil := by
 obtain ⟨h1, h2⟩ := mres0 hm
 obtain ⟨k, rfl, h3, h4⟩ := nNat h2
 obtain ⟨bs, hbs⟩ := hb
 obtain ⟨q1, q2, q3, q4⟩ := chk0 h1
 have hl := h.dl
 have := c25 i.e k i.p.toNat i.dn (memK i i.sg.length) bs (capM i i.sg.length) (pNat h1).2.2 (memK_len h1 _ (Nat.le_refl _)) q3 (by rw [hbs, List.length_map] at hl; exact hl) h4
 have e : mM i k = mB i.e k i.p.toNat i.dn (memK i i.sg.length) bs (capM i i.sg.length) := by
  unfold mM mB Im.dR
  rw [h3, hbs]; rfl
 rw [e]; exact this
theorem ec0 : ∀ {ims : List Im} {ns : List Int} {k : Nat}, ec ims ns = 0 → (h1 : k < ims.length) → (h2 : k < ns.length) → mres ims[k] ns[k] = 0
 | i :: ims, n :: ns, 0, h, _, _ => by
  unfold ec at h
  split at h
  · assumption
  · contradiction
 | i :: ims, n :: ns, k + 1, h, h1, h2 => by
  unfold ec at h
  split at h
  · exact ec0 (ims := ims) (ns := ns) h (by simpa using h1) (by simpa using h2)
  · contradiction
theorem mcs_at : ∀ {ims : List Im} {ns : List Int} {k : Nat}, (h1 : k < ims.length) → (h2 : k < ns.length) → ((mcs ims ns).drop (k * 47)).take 47 = mM ims[k] ns[k] ∧ k * 47 + 47 ≤ (mcs ims ns).length
 | i :: ims, n :: ns, 0, _, _ => by
  refine ⟨rfl, ?_⟩
  simp only [mcs, List.length_append, mM_len]; omega
 | i :: ims, n :: ns, k + 1, h1, h2 => by
  have ih := mcs_at (ims := ims) (ns := ns) (k := k) (by simpa using h1) (by simpa using h2)
  refine ⟨?_, ?_⟩
  · rw [mcs, List.drop_append, List.drop_eq_nil_of_le (by rw [mM_len]; omega), mM_len, List.nil_append, show (k + 1) * 47 - 47 = k * 47 by omega, ih.1]; rfl
  · simp only [mcs, List.length_append, mM_len]; omega
theorem tkMM {ims : List Im} {ns : List Int} {k off : Nat} {i : Im} {n : Int} {K : List AV → Prop} (h1 : k < ims.length) (h2 : k < ns.length) (hx : ims[k] = i) (hy : ns[k] = n) (ho : off = k * 47) (hk : K (mM i n)) : takeK 47 ((mcs ims ns).drop off) K := by
 subst ho hx hy
 obtain ⟨e1, e2⟩ := mcs_at h1 h2
 rw [takeK_eq _ _ _ (by rw [List.length_drop]; omega), e1]; exact hk
def L8 (ims : List Im) (ns : List Int) (ws : List Wr) (m : Nat) (fr : Fr) (H : Heap) : Prop := ∃ k : Nat, k ≤ ims.length ∧ m = ims.length - k ∧ fr = [(2, .ptr 0 0), (3, .ptr 1 0), (5, I k)] ∧ H = ⟨2, [(0, .cells (net ims ns ws)), (1, .cells (net ims ns ws))]⟩
theorem c8 (ims : List Im) (ns : List Int) (ws : List Wr) (hi : ∀ i ∈ ims, i.ok) (hb : ∀ i ∈ ims, i.byt) (hl : ¬ limB ims ws) (hn : ns.length = ims.length) (he : ec ims ns = 0) : CallA Tryz.prog 8 [.agg (net ims ns ws), .agg (net ims ns ws)] Heap.nil fun v H' => v = .bool true ∧ H' = Heap.nil := by
 unfold limB at hl
 have h22 := c22 ws.length (by omega)
 have h23 := c23 ims.length (by omega)
 have h13 := c13 ws (by omega)
 have hdd : dataB (.cells (net ims ns ws)) := noLocL_all rfl
 refine callA_of ok8 (Nat.le_of_ble_eq_true rfl) ?_
 repeat' ((conv => whnf); first | refine Branch.ofT rfl ?_ | refine Branch.ofF rfl ?_ | refine Branch.negdec (fun h => absurd rfl h) (fun _ => ?_) | refine Branch.dec (fun h => ?_) (fun h => ?_) | refine Branch.negdec (fun h => ?_) (fun h => ?_) | refine Branch.neg (fun h => ?_) (fun h => ?_) | refine Branch.mk (fun h => ?_) (fun h => ?_) | (refine Side.mk ?_ ?_; · first | omega | decide) | (refine SideD.mk ?_ ?_; · first | omega | decide) | refine ⟨_, Nat.lt_succ_self _, To.refl (.inl ⟨rfl, ?_⟩)⟩ | refine CallA.pure h22 rfl rfl ?_ | refine CallA.pure h23 rfl rfl ?_ | refine CallA.pure c24 rfl rfl ?_ | (refine Side.mk ?_ ?_; · (simp; done)) | fail)
 all_goals (conv => whnf)
 refine ⟨L8 ims ns ws, ims.length, To.gc [(0, true), (1, true)] [2, 3, 5] rfl ⟨hdd, hdd, trivial⟩ ⟨0, by omega, by omega, rfl, rfl⟩, ?_⟩
 rintro m fr H ⟨k, hk, rfl, rfl, rfl⟩
 by_cases hkl : k < ims.length
 · have hkn : k < ns.length := by omega
   have hm := ec0 he hkl hkn
   have hio := hi _ (List.getElem_mem hkl)
   have hib := hb _ (List.getElem_mem hkl)
   generalize hx : ims[k] = i at hm hio hib
   generalize hy : ns[k] = n at hm
   have h25 := z25 i n hio hib hm
   have hd := noLocL_of (mM_noLoc hio n)
   repeat' ((conv => whnf); first | refine Branch.ofT rfl ?_ | refine Branch.ofF rfl ?_ | refine Branch.ofT (decide_eq_true (by omega)) ?_ | refine Branch.ofF (decide_eq_false (by omega)) ?_ | refine Branch.dec (fun h => ?_) (fun h => ?_) | refine Branch.negdec (fun h => ?_) (fun h => ?_) | refine Branch.neg (fun h => ?_) (fun h => ?_) | refine Branch.mk (fun h => ?_) (fun h => ?_) | (refine Side.mk ?_ ?_; · first | omega | decide) | (refine SideD.mk ?_ ?_; · first | omega | decide) | refine ⟨_, Nat.lt_succ_self _, To.refl (.inl ⟨rfl, ?_⟩)⟩ | refine tkMM hkl hkn hx hy (by omega) ?_ | refine QCallA.of h25 (by simp [noLocL, noLoc, hd]) rfl ?_ | (refine Side.mk ?_ ?_; · (simp; done)) | fail)
   all_goals (conv => whnf)
   all_goals exact ⟨ims.length - (k + 1), by omega, To.gc [(0, true), (1, true)] [2, 3, 5] rfl ⟨hdd, hdd, trivial⟩ ⟨k + 1, by omega, rfl, rfl, rfl⟩⟩
 · have hkl : k = ims.length := by omega
   subst hkl
   repeat' ((conv => whnf); first | refine Branch.ofT rfl ?_ | refine Branch.ofF rfl ?_ | refine Branch.ofT (decide_eq_true (by omega)) ?_ | refine Branch.ofF (decide_eq_false (by omega)) ?_ | refine Branch.dec (fun h => ?_) (fun h => ?_) | refine Branch.negdec (fun h => ?_) (fun h => ?_) | refine Branch.neg (fun h => ?_) (fun h => ?_) | refine Branch.mk (fun h => ?_) (fun h => ?_) | (refine Side.mk ?_ ?_; · first | omega | decide) | (refine SideD.mk ?_ ?_; · first | omega | decide) | refine ⟨_, Nat.lt_succ_self _, To.refl (.inl ⟨rfl, ?_⟩)⟩ | refine CallA.pure h13 rfl rfl ?_ | (refine Side.mk ?_ ?_; · (simp; done)) | fail)
   all_goals (conv => whnf)
   exact RetA.data rfl ⟨rfl, rfl⟩
end Go.Proofs

set_option maxRecDepth 1000000
set_option maxHeartbeats 0
namespace Go.Proofs
open Go Go.Eng
def ntTblG : List FE := [fe2, fe3, fe4, fe5, fe6, fe7, fe8, fe9, fe10, fe11, fe12, fe13, fe14, fe15, fe16, fe17, fe18, fe19, fe20, fe21, fe22, fe23, fe24, fe25, fe26, fe27, fe28, fe29, fe30, fe31, fe32, fe33, fe34, fe35, fe36, fe37, fe38, fe39, fe40, fe41, fe42, fe43, fe44, fe45, fe46, fe48, fe49, fe50, fe51, fe52, fe53, fe54, fe55, fe56, fe57, fe58, fe59, fe60, fe61, fe62, fe63, fe64, fe65, fe66, fe67, fe68, fe69, fe70, fe71, fe72, fe73, fe74, fe75, fe76, fe77, fe78, fe79, fe80, fe81, fe82, fe83, fe84, fe85, fe86, fe87, fe88, fe89, fe90, fe91, fe92, fe93, fe94, fe95, fe96, fe97, fe98, fe99, fe100, fe101, fe102, fe103, fe104, fe105, fe106, fe107, fe108, fe109, fe110, fe111, fe112, fe113, fe114, fe115, fe116, fe117, fe118, fe119, fe120, fe121, fe122, fe123, fe124, fe125, fe126, fe127, fe128, fe129, fe130, fe131, fe132, fe133, fe134, fe135, fe136, fe137, fe139, fe140, fe142, fe143, fe144, fe145, fe146, fe147, fe148, fe149, fe150, fe151, fe152, fe153, fe154, fe155, fe157, fe158, fe159, fe160, fe161, fe162, fe163, fe164, fe165, fe166, fe167, fe168, fe169, fe170, fe171, fe172, fe173, fe174, fe175, fe176, fe178, fe179, fe180, fe181, fe182, fe183, fe184, fe185, fe186, fe187, fe188, fe189, fe190, fe191, fe192, fe193, fe194, fe195, fe196, fe197, fe198, fe214, fe216, fe217, fe219, fe220, fe221, fe222, fe223, fe224, fe225, fe226, fe227, fe228, fe229, fe230, fe231, fe232, fe233, fe234, fe235, fe236, fe237, fe238, fe239, fe240, fe241, fe242, fe243, fe244, fe245, fe246, fe247, fe248]
theorem ntOkG : okAll Tryz.prog ntTblG := ⟨ok2, ok3, ok4, ok5, ok6, ok7, ok8, ok9, ok10, ok11, ok12, ok13, ok14, ok15, ok16, ok17, ok18, ok19, ok20, ok21, ok22, ok23, ok24, ok25, ok26, ok27, ok28, ok29, ok30, ok31, ok32, ok33, ok34, ok35, ok36, ok37, ok38, ok39, ok40, ok41, ok42, ok43, ok44, ok45, ok46, ok48, ok49, ok50, ok51, ok52, ok53, ok54, ok55, ok56, ok57, ok58, ok59, ok60, ok61, ok62, ok63, ok64, ok65, ok66, ok67, ok68, ok69, ok70, ok71, ok72, ok73, ok74, ok75, ok76, ok77, ok78, ok79, ok80, ok81, ok82, ok83, ok84, ok85, ok86, ok87, ok88, ok89, ok90, ok91, ok92, ok93, ok94, ok95, ok96, ok97, ok98, ok99, ok100, ok101, ok102, ok103, ok104, ok105, ok106, ok107, ok108, ok109, ok110, ok111, ok112, ok113, ok114, ok115, ok116, ok117, ok118, ok119, ok120, ok121, ok122, ok123, ok124, ok125, ⟨ok126, ok141⟩, ok127, ok128, ok129, ok130, ok131, ok132, ok133, ok134, ok135, ok136, ok137, ok139, ok140, ok142, ok143, ok144, ok145, ok146, ok147, ok148, ok149, ok150, ok151, ok152, ok153, ok154, ok155, ok157, ok158, ok159, ok160, ok161, ok162, ok163, ok164, ok165, ok166, ok167, ok168, ok169, ok170, ⟨ok171, ok177⟩, ok172, ok173, ok174, ok175, ok176, ok178, ok179, ok180, ok181, ok182, ok183, ok184, ok185, ok186, ok187, ok188, ok189, ok190, ok191, ok192, ok193, ok194, ok195, ok196, ok197, ok198, ok214, ok216, ok217, ok219, ok220, ok221, ok222, ok223, ok224, ok225, ok226, ok227, ok228, ok229, ok230, ok231, ok232, ok233, ok234, ok235, ok236, ok237, ok238, ok239, ok240, ok241, ok242, ok243, ok244, ok245, ok246, ok247, ok248, trivial⟩
theorem ntRfG : rfTbl Tryz.prog ntTblG := ⟨FE.rfAll_of rfl, FE.rfAll_of rfl, FE.rfAll_of rfl, FE.rfAll_of rfl, FE.rfAll_of rfl, FE.rfAll_of rfl, FE.rfAll_of rfl, FE.rfAll_of rfl, FE.rfAll_of rfl, FE.rfAll_of rfl, FE.rfAll_of rfl, FE.rfAll_of rfl, FE.rfAll_of rfl, FE.rfAll_of rfl, FE.rfAll_of rfl, FE.rfAll_of rfl, FE.rfAll_of rfl, FE.rfAll_of rfl, FE.rfAll_of rfl, FE.rfAll_of rfl, FE.rfAll_of rfl, FE.rfAll_of rfl, FE.rfAll_of rfl, FE.rfAll_of rfl, FE.rfAll_of rfl, FE.rfAll_of rfl, FE.rfAll_of rfl, FE.rfAll_of rfl, FE.rfAll_of rfl, FE.rfAll_of rfl, FE.rfAll_of rfl, FE.rfAll_of rfl, FE.rfAll_of rfl, FE.rfAll_of rfl, FE.rfAll_of rfl, FE.rfAll_of rfl, FE.rfAll_of rfl, FE.rfAll_of rfl, FE.rfAll_of rfl, FE.rfAll_of rfl, FE.rfAll_of rfl, FE.rfAll_of rfl, FE.rfAll_of rfl, FE.rfAll_of rfl, FE.rfAll_of rfl, FE.rfAll_of rfl, FE.rfAll_of rfl, FE.rfAll_of rfl, FE.rfAll_of rfl, FE.rfAll_of rfl, FE.rfAll_of rfl, FE.rfAll_of rfl, FE.rfAll_of rfl, FE.rfAll_of rfl, FE.rfAll_of rfl, FE.rfAll_of rfl, FE.rfAll_of rfl, FE.rfAll_of rfl, FE.rfAll_of rfl, FE.rfAll_of rfl, FE.rfAll_of rfl, FE.rfAll_of rfl, FE.rfAll_of rfl, FE.rfAll_of rfl, FE.rfAll_of rfl, FE.rfAll_of rfl, FE.rfAll_of rfl, FE.rfAll_of rfl, FE.rfAll_of rfl, FE.rfAll_of rfl, FE.rfAll_of rfl, FE.rfAll_of rfl, FE.rfAll_of rfl, FE.rfAll_of rfl, ⟨rf77, trivial⟩, FE.rfAll_of rfl, FE.rfAll_of rfl, FE.rfAll_of rfl, FE.rfAll_of rfl, FE.rfAll_of rfl, FE.rfAll_of rfl, FE.rfAll_of rfl, FE.rfAll_of rfl, FE.rfAll_of rfl, FE.rfAll_of rfl, FE.rfAll_of rfl, FE.rfAll_of rfl, FE.rfAll_of rfl, ⟨rf91, trivial⟩, FE.rfAll_of rfl, FE.rfAll_of rfl, FE.rfAll_of rfl, FE.rfAll_of rfl, FE.rfAll_of rfl, FE.rfAll_of rfl, FE.rfAll_of rfl, FE.rfAll_of rfl, FE.rfAll_of rfl, FE.rfAll_of rfl, FE.rfAll_of rfl, FE.rfAll_of rfl, FE.rfAll_of rfl, FE.rfAll_of rfl, FE.rfAll_of rfl, FE.rfAll_of rfl, FE.rfAll_of rfl, FE.rfAll_of rfl, FE.rfAll_of rfl, FE.rfAll_of rfl, FE.rfAll_of rfl, FE.rfAll_of rfl, FE.rfAll_of rfl, FE.rfAll_of rfl, FE.rfAll_of rfl, FE.rfAll_of rfl, FE.rfAll_of rfl, FE.rfAll_of rfl, FE.rfAll_of rfl, FE.rfAll_of rfl, FE.rfAll_of rfl, FE.rfAll_of rfl, FE.rfAll_of rfl, FE.rfAll_of rfl, FE.rfAll_of rfl, FE.rfAll_of rfl, FE.rfAll_of rfl, FE.rfAll_of rfl, FE.rfAll_of rfl, FE.rfAll_of rfl, FE.rfAll_of rfl, FE.rfAll_of rfl, FE.rfAll_of rfl, FE.rfAll_of rfl, FE.rfAll_of rfl, FE.rfAll_of rfl, FE.rfAll_of rfl, FE.rfAll_of rfl, FE.rfAll_of rfl, FE.rfAll_of rfl, FE.rfAll_of rfl, FE.rfAll_of rfl, FE.rfAll_of rfl, FE.rfAll_of rfl, FE.rfAll_of rfl, FE.rfAll_of rfl, FE.rfAll_of rfl, FE.rfAll_of rfl, FE.rfAll_of rfl, FE.rfAll_of rfl, FE.rfAll_of rfl, FE.rfAll_of rfl, FE.rfAll_of rfl, FE.rfAll_of rfl, FE.rfAll_of rfl, FE.rfAll_of rfl, FE.rfAll_of rfl, FE.rfAll_of rfl, FE.rfAll_of rfl, FE.rfAll_of rfl, FE.rfAll_of rfl, FE.rfAll_of rfl, FE.rfAll_of rfl, FE.rfAll_of rfl, FE.rfAll_of rfl, FE.rfAll_of rfl, FE.rfAll_of rfl, FE.rfAll_of rfl, FE.rfAll_of rfl, FE.rfAll_of rfl, FE.rfAll_of rfl, FE.rfAll_of rfl, FE.rfAll_of rfl, FE.rfAll_of rfl, FE.rfAll_of rfl, FE.rfAll_of rfl, FE.rfAll_of rfl, FE.rfAll_of rfl, FE.rfAll_of rfl, FE.rfAll_of rfl, FE.rfAll_of rfl, FE.rfAll_of rfl, FE.rfAll_of rfl, FE.rfAll_of rfl, FE.rfAll_of rfl, FE.rfAll_of rfl, FE.rfAll_of rfl, FE.rfAll_of rfl, FE.rfAll_of rfl, FE.rfAll_of rfl, FE.rfAll_of rfl, FE.rfAll_of rfl, FE.rfAll_of rfl, ⟨rf214, trivial⟩, FE.rfAll_of rfl, FE.rfAll_of rfl, FE.rfAll_of rfl, FE.rfAll_of rfl, FE.rfAll_of rfl, FE.rfAll_of rfl, FE.rfAll_of rfl, FE.rfAll_of rfl, FE.rfAll_of rfl, FE.rfAll_of rfl, FE.rfAll_of rfl, FE.rfAll_of rfl, FE.rfAll_of rfl, FE.rfAll_of rfl, FE.rfAll_of rfl, FE.rfAll_of rfl, FE.rfAll_of rfl, FE.rfAll_of rfl, FE.rfAll_of rfl, FE.rfAll_of rfl, FE.rfAll_of rfl, FE.rfAll_of rfl, FE.rfAll_of rfl, FE.rfAll_of rfl, FE.rfAll_of rfl, FE.rfAll_of rfl, FE.rfAll_of rfl, FE.rfAll_of rfl, FE.rfAll_of rfl, FE.rfAll_of rfl, FE.rfAll_of rfl, FE.rfAll_of rfl, trivial⟩
theorem san_run : resultR (ovG [47] (runO noOv ntTbl ntRt 1000 60) noOv) ntTblG ntRt 1000 60 4 [] = some (.bool true) := by kernel_rfl
theorem san : CallA Tryz.prog 4 [] Heap.nil fun v H' => v = .bool true ∧ H' = Heap.nil := CallA.computedR (ovG_ok (runO_ok noOv_ok (okAll_spec ntOk) (rfTbl_spec ntRf) (rtAll_spec ntRt_ok) 1000 60) noOv_ok) ntOkG ntRfG ntRt_ok 1000 60 san_run
end Go.Proofs

namespace Go.Proofs
open Go Go.Eng
set_option maxRecDepth 100000
set_option maxHeartbeats 4000000

theorem both (ims : List Im) (ns : List Int) (ws : List Wr) (hi : ∀ i ∈ ims, i.ok) (hb : ims.length ≤ 12 ∧ ns.length ≤ 12 ∧ ws.length ≤ 20) :
 (∃ e : Int, (CallA Tryz.prog 6 (a6 ims ns ws) Heap.nil fun v H' => v = .tuple [.agg n0, I e] ∧ H' = Heap.nil) ∧ (CallA Tryz.prog 7 (a6 ims ns ws) Heap.nil fun v H' => v = .agg (n1 e) ∧ H' = Heap.nil)) ∨
 ((CallA Tryz.prog 6 (a6 ims ns ws) Heap.nil fun v H' => v = .tuple [.agg (net ims ns ws), I 0] ∧ H' = Heap.nil) ∧ (CallA Tryz.prog 7 (a6 ims ns ws) Heap.nil fun v H' => v = .agg (net ims ns ws ++ [I 0, I 0]) ∧ H' = Heap.nil) ∧ ¬ limB ims ws ∧ ns.length = ims.length ∧ ec ims ns = 0) := by
 by_cases hl : limB ims ws
 · exact .inl ⟨2, c6a ims ns ws hi hl (by omega), c7a ims ns ws hl (by omega)⟩
 · by_cases hn : ns.length = ims.length
   · have h7 := c7t ims ns ws hi hl hn
     cases ha : ws.any (wrg ims.length) with
     | true =>
      rw [if_pos ha] at h7
      exact .inl ⟨1, c6b ims ns ws hi hl (by omega) (.inr ha), h7⟩
     | false =>
      have h6 := c6t ims ns ws hi hl hn ha
      rw [if_neg (by rw [ha]; exact Bool.false_ne_true)] at h7
      by_cases he : ec ims ns = 0
      · rw [if_pos he] at h7
        rw [if_pos he, he] at h6
        exact .inr ⟨h6, h7, hl, hn, he⟩
      · rw [if_neg he] at h7 h6
        exact .inl ⟨_, h6, h7⟩
   · exact .inl ⟨1, c6b ims ns ws hi hl (by omega) (.inl hn), c7b ims ns ws hl (by omega) hn⟩
def L3 (ims : List Im) (ns : List Int) (ws : List Wr) (m : Nat) (fr : Fr) (H : Heap) : Prop := ∃ k : Nat, k ≤ ims.length ∧ m = ims.length - k ∧ (∀ j (hj : j < ims.length), j < k → few ims[j] = true) ∧ fr = [(0, .dslice (ic ims) ims.length none), (1, .dslice (nc ns) ns.length none), (2, .dslice (wc ws) ws.length none), (7, I k)] ∧ H = ⟨0, []⟩
theorem c3 (ims : List Im) (ns : List Int) (ws : List Wr) (hi : ∀ i ∈ ims, i.raw) (hb : ∀ i ∈ ims, i.byt) : CallA Tryz.prog 3 (a6 ims ns ws) Heap.nil fun v H' => v = .bool true ∧ H' = Heap.nil := by
 refine callA_of ok3 (Nat.le_of_ble_eq_true rfl) ?_
 by_cases hl : ims.length > 12 ∨ ns.length > 12 ∨ ws.length > 20
 · repeat' ((conv => whnf); first | refine Branch.ofT rfl ?_ | refine Branch.ofF rfl ?_ | refine Branch.ofT (decide_eq_true (by omega)) ?_ | refine Branch.ofF (decide_eq_false (by omega)) ?_ | refine Branch.dec (fun h => ?_) (fun h => ?_) | refine Branch.negdec (fun h => ?_) (fun h => ?_) | refine Branch.neg (fun h => ?_) (fun h => ?_) | refine Branch.mk (fun h => ?_) (fun h => ?_) | (refine Side.mk ?_ ?_; · first | omega | decide) | (refine SideD.mk ?_ ?_; · first | omega | decide) | refine ⟨_, Nat.lt_succ_self _, To.refl (.inl ⟨rfl, ?_⟩)⟩ | refine CallA.pure san rfl rfl ?_ | (refine Side.mk ?_ ?_; · (simp; done)) | fail)
   all_goals (conv => whnf)
   all_goals exact RetA.data rfl ⟨rfl, rfl⟩
 · repeat' ((conv => whnf); first | refine Branch.ofT rfl ?_ | refine Branch.ofF rfl ?_ | refine Branch.ofT (decide_eq_true (by omega)) ?_ | refine Branch.ofF (decide_eq_false (by omega)) ?_ | refine Branch.dec (fun h => ?_) (fun h => ?_) | refine Branch.negdec (fun h => ?_) (fun h => ?_) | refine Branch.neg (fun h => ?_) (fun h => ?_) | refine Branch.mk (fun h => ?_) (fun h => ?_) | (refine Side.mk ?_ ?_; · first | omega | decide) | (refine SideD.mk ?_ ?_; · first | omega | decide) | refine ⟨_, Nat.lt_succ_self _, To.refl (.inl ⟨rfl, ?_⟩)⟩ | (refine Side.mk ?_ ?_; · (simp; done)) | fail)
   all_goals (conv => whnf)
   refine ⟨L3 ims ns ws, ims.length, To.gc [] [0, 1, 2, 7] rfl trivial ⟨0, by omega, by omega, fun j hj h => absurd h (Nat.not_lt_zero _), rfl, rfl⟩, ?_⟩
   rintro m fr H ⟨k, hk, rfl, hf, rfl, rfl⟩
   by_cases hkl : k < ims.length
   · have hir := hi _ (List.getElem_mem hkl)
     have h5 := c5 _ hir
     have hnl := Im.raw.noLoc hir
     cases hfe : few ims[k] with
     | true =>
      rw [hfe] at h5
      generalize hx : ims[k] = i at h5 hir hnl
      repeat' ((conv => whnf); first | refine Branch.ofT rfl ?_ | refine Branch.ofF rfl ?_ | refine Branch.ofT (decide_eq_true (by omega)) ?_ | refine Branch.ofF (decide_eq_false (by omega)) ?_ | refine Branch.dec (fun h => ?_) (fun h => ?_) | refine Branch.negdec (fun h => ?_) (fun h => ?_) | refine Branch.neg (fun h => ?_) (fun h => ?_) | refine Branch.mk (fun h => ?_) (fun h => ?_) | (refine Side.mk ?_ ?_; · first | omega | decide) | (refine SideD.mk ?_ ?_; · first | omega | decide) | refine ⟨_, Nat.lt_succ_self _, To.refl (.inl ⟨rfl, ?_⟩)⟩ | refine itk hkl hx (by omega) ?_ | refine CallA.pure h5 (by simp [noLocL, hnl]) rfl ?_ | (refine Side.mk ?_ ?_; · (simp; done)) | fail)
      all_goals (conv => whnf)
      refine ⟨ims.length - (k + 1), by omega, To.gc [] [0, 1, 2, 7] rfl trivial ⟨k + 1, by omega, rfl, fun j hj h => ?_, rfl, rfl⟩⟩
      rcases Nat.lt_or_ge j k with h1 | h1
      · exact hf j hj h1
      · have : j = k := by omega
        subst this
        exact hfe
     | false =>
      rw [hfe] at h5
      generalize hx : ims[k] = i at h5 hir hnl
      repeat' ((conv => whnf); first | refine Branch.ofT rfl ?_ | refine Branch.ofF rfl ?_ | refine Branch.ofT (decide_eq_true (by omega)) ?_ | refine Branch.ofF (decide_eq_false (by omega)) ?_ | refine Branch.dec (fun h => ?_) (fun h => ?_) | refine Branch.negdec (fun h => ?_) (fun h => ?_) | refine Branch.neg (fun h => ?_) (fun h => ?_) | refine Branch.mk (fun h => ?_) (fun h => ?_) | (refine Side.mk ?_ ?_; · first | omega | decide) | (refine SideD.mk ?_ ?_; · first | omega | decide) | refine ⟨_, Nat.lt_succ_self _, To.refl (.inl ⟨rfl, ?_⟩)⟩ | refine itk hkl hx (by omega) ?_ | refine CallA.pure h5 (by simp [noLocL, hnl]) rfl ?_ | refine CallA.pure san rfl rfl ?_ | (refine Side.mk ?_ ?_; · (simp; done)) | fail)
      all_goals (conv => whnf)
      exact RetA.data rfl ⟨rfl, rfl⟩
   · have hkl : k = ims.length := by omega
     have hio : ∀ i ∈ ims, i.ok := fun i h => by
      obtain ⟨j, hj, rfl⟩ := List.getElem_of_mem h
      exact Im.ok_of (hi _ h) (hf j hj (by omega))
     rcases both ims ns ws hio (by omega) with ⟨e, h6, h7⟩ | ⟨h6, h7, h1, h2, h3⟩
     · repeat' ((conv => whnf); first | refine Branch.ofT rfl ?_ | refine Branch.ofF rfl ?_ | refine Branch.dec (fun _ => ?_) (fun h => absurd rfl h) | refine Branch.ofT (decide_eq_true (by omega)) ?_ | refine Branch.ofF (decide_eq_false (by omega)) ?_ | refine Branch.dec (fun h => ?_) (fun h => ?_) | refine Branch.negdec (fun h => ?_) (fun h => ?_) | refine Branch.neg (fun h => ?_) (fun h => ?_) | refine Branch.mk (fun h => ?_) (fun h => ?_) | (refine Side.mk ?_ ?_; · first | omega | decide) | (refine SideD.mk ?_ ?_; · first | omega | decide) | refine ⟨_, Nat.lt_succ_self _, To.refl (.inl ⟨rfl, ?_⟩)⟩ | refine CallA.pure h6 rfl rfl ?_ | refine CallA.pure h7 rfl rfl ?_ | refine CallA.pure san rfl rfl ?_ | refine CallA.pure c8z rfl rfl ?_ | (refine Side.mk ?_ ?_; · (simp; done)) | fail)
       all_goals (conv => whnf)
       exact RetA.data rfl ⟨rfl, rfl⟩
     · have h8 := c8 ims ns ws hio hb h1 h2 h3
       repeat' ((conv => whnf); first | refine Branch.ofT rfl ?_ | refine Branch.ofF rfl ?_ | refine Branch.dec (fun _ => ?_) (fun h => absurd rfl h) | refine Branch.ofT (decide_eq_true (by omega)) ?_ | refine Branch.ofF (decide_eq_false (by omega)) ?_ | refine Branch.dec (fun h => ?_) (fun h => ?_) | refine Branch.negdec (fun h => ?_) (fun h => ?_) | refine Branch.neg (fun h => ?_) (fun h => ?_) | refine Branch.mk (fun h => ?_) (fun h => ?_) | (refine Side.mk ?_ ?_; · first | omega | decide) | (refine SideD.mk ?_ ?_; · first | omega | decide) | refine ⟨_, Nat.lt_succ_self _, To.refl (.inl ⟨rfl, ?_⟩)⟩ | refine CallA.pure h6 rfl rfl ?_ | refine CallA.pure h7 rfl rfl ?_ | refine CallA.pure san rfl rfl ?_ | refine CallA.pure h8 rfl rfl ?_ | (refine Side.mk ?_ ?_; · (simp; done)) | fail)
       all_goals (conv => whnf)
       exact RetA.data rfl ⟨rfl, rfl⟩
end Go.Proofs

