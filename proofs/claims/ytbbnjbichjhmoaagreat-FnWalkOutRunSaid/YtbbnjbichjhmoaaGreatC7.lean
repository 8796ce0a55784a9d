/- The lowered program fits the program: function by function. Written by a program of this claim (mktie.py). -/
import Derived.Test.YtbbnjbichjhmoaaGreatC6
import Derived.Test.YtbbnjbichjhmoaaGreatB3
import Derived.Test.YtbbnjbichjhmoaaGreatChecked
import Derived.KernelRfl
namespace Go.Ai
def fmT : List (Nat × Nat) := [(25, 40), (26, 16), (35, 15), (36, 139), (40, 43), (44, 79), (45, 78), (48, 97), (49, 96), (54, 90), (55, 41), (56, 91), (57, 92), (58, 93), (65, 50), (66, 44), (67, 51), (68, 52), (73, 136), (74, 137), (75, 81), (76, 138), (82, 149), (83, 150), (84, 151), (88, 99), (89, 100), (90, 101), (91, 102), (92, 103), (93, 104), (94, 105), (95, 106), (96, 107), (98, 174), (99, 175), (100, 94), (101, 95), (106, 178), (108, 156), (109, 157), (110, 158), (111, 159), (112, 160), (113, 194), (114, 195), (115, 119), (116, 152), (117, 153), (118, 154), (119, 155), (122, 177), (123, 203), (124, 204), (125, 205), (126, 206), (127, 179), (128, 180), (129, 181), (130, 182), (131, 183), (132, 184), (133, 185), (134, 196), (135, 197), (136, 198), (137, 199), (138, 200), (139, 201), (140, 202), (157, 46), (168, 8), (171, 11), (172, 12), (173, 13), (174, 14), (180, 30), (183, 33), (184, 34), (186, 42), (187, 45), (188, 47), (189, 48), (190, 49), (204, 80), (206, 83), (209, 98), (225, 140), (226, 141), (227, 142), (228, 143), (229, 144), (230, 145), (237, 176), (242, 222), (243, 223), (244, 224), (245, 225), (246, 226), (247, 227), (248, 228), (249, 229), (250, 230), (251, 231), (252, 232)]
def fmF : Nat → Option FuncId := fun n => (fmT.find? fun p => p.1 == n).map (·.2)
def nmT : List String := ["loop.example/gemel/impl.running", "loop.example/gemel/impl.here", "loop.example/gemel/impl.sender", "loop.example/gemel/impl.looked", "loop.example/gemel/impl.enter", "loop.example/gemel/impl.leave", "loop.example/gemel/impl.upTo", "loop.example/gemel/impl.say", "loop.example/gemel/impl.full"]
noncomputable def TM : SM := ⟨Go.Proofs.Tryz.prog, fmF, [119], fun n => nmT[n]?⟩
theorem tg_25 : TM.P.funcs[40]? = some Go.Proofs.Tryz.f40 := by kernel_rfl
theorem tn_25 : (Go.Proofs.Tryz.f40.name != "runtime.NumGoroutine" && !Go.Proofs.Tryz.f40.body.isNone) = true := by kernel_rfl
theorem tg_26 : TM.P.funcs[16]? = some Go.Proofs.Tryz.f16 := by kernel_rfl
theorem tn_26 : (Go.Proofs.Tryz.f16.name != "runtime.NumGoroutine" && !Go.Proofs.Tryz.f16.body.isNone) = true := by kernel_rfl
theorem tg_35 : TM.P.funcs[15]? = some Go.Proofs.Tryz.f15 := by kernel_rfl
theorem tn_35 : (Go.Proofs.Tryz.f15.name != "runtime.NumGoroutine" && !Go.Proofs.Tryz.f15.body.isNone) = true := by kernel_rfl
theorem tg_36 : TM.P.funcs[139]? = some Go.Proofs.Tryz.f139 := by kernel_rfl
theorem tn_36 : (Go.Proofs.Tryz.f139.name != "runtime.NumGoroutine" && !Go.Proofs.Tryz.f139.body.isNone) = true := by kernel_rfl
theorem tg_40 : TM.P.funcs[43]? = some Go.Proofs.Tryz.f43 := by kernel_rfl
theorem tn_40 : (Go.Proofs.Tryz.f43.name != "runtime.NumGoroutine" && !Go.Proofs.Tryz.f43.body.isNone) = true := by kernel_rfl
theorem tg_44 : TM.P.funcs[79]? = some Go.Proofs.Tryz.f79 := by kernel_rfl
theorem tn_44 : (Go.Proofs.Tryz.f79.name != "runtime.NumGoroutine" && !Go.Proofs.Tryz.f79.body.isNone) = true := by kernel_rfl
theorem tg_45 : TM.P.funcs[78]? = some Go.Proofs.Tryz.f78 := by kernel_rfl
theorem tn_45 : (Go.Proofs.Tryz.f78.name != "runtime.NumGoroutine" && !Go.Proofs.Tryz.f78.body.isNone) = true := by kernel_rfl
theorem tg_48 : TM.P.funcs[97]? = some Go.Proofs.Tryz.f97 := by kernel_rfl
theorem tn_48 : (Go.Proofs.Tryz.f97.name != "runtime.NumGoroutine" && !Go.Proofs.Tryz.f97.body.isNone) = true := by kernel_rfl
theorem tg_49 : TM.P.funcs[96]? = some Go.Proofs.Tryz.f96 := by kernel_rfl
theorem tn_49 : (Go.Proofs.Tryz.f96.name != "runtime.NumGoroutine" && !Go.Proofs.Tryz.f96.body.isNone) = true := by kernel_rfl
theorem tg_54 : TM.P.funcs[90]? = some Go.Proofs.Tryz.f90 := by kernel_rfl
theorem tn_54 : (Go.Proofs.Tryz.f90.name != "runtime.NumGoroutine" && !Go.Proofs.Tryz.f90.body.isNone) = true := by kernel_rfl
theorem tg_55 : TM.P.funcs[41]? = some Go.Proofs.Tryz.f41 := by kernel_rfl
theorem tn_55 : (Go.Proofs.Tryz.f41.name != "runtime.NumGoroutine" && !Go.Proofs.Tryz.f41.body.isNone) = true := by kernel_rfl
theorem tg_56 : TM.P.funcs[91]? = some Go.Proofs.Tryz.f91 := by kernel_rfl
theorem tn_56 : (Go.Proofs.Tryz.f91.name != "runtime.NumGoroutine" && !Go.Proofs.Tryz.f91.body.isNone) = true := by kernel_rfl
theorem tg_57 : TM.P.funcs[92]? = some Go.Proofs.Tryz.f92 := by kernel_rfl
theorem tn_57 : (Go.Proofs.Tryz.f92.name != "runtime.NumGoroutine" && !Go.Proofs.Tryz.f92.body.isNone) = true := by kernel_rfl
theorem tg_58 : TM.P.funcs[93]? = some Go.Proofs.Tryz.f93 := by kernel_rfl
theorem tn_58 : (Go.Proofs.Tryz.f93.name != "runtime.NumGoroutine" && !Go.Proofs.Tryz.f93.body.isNone) = true := by kernel_rfl
theorem tg_65 : TM.P.funcs[50]? = some Go.Proofs.Tryz.f50 := by kernel_rfl
theorem tn_65 : (Go.Proofs.Tryz.f50.name != "runtime.NumGoroutine" && !Go.Proofs.Tryz.f50.body.isNone) = true := by kernel_rfl
theorem tg_66 : TM.P.funcs[44]? = some Go.Proofs.Tryz.f44 := by kernel_rfl
theorem tn_66 : (Go.Proofs.Tryz.f44.name != "runtime.NumGoroutine" && !Go.Proofs.Tryz.f44.body.isNone) = true := by kernel_rfl
theorem tg_67 : TM.P.funcs[51]? = some Go.Proofs.Tryz.f51 := by kernel_rfl
theorem tn_67 : (Go.Proofs.Tryz.f51.name != "runtime.NumGoroutine" && !Go.Proofs.Tryz.f51.body.isNone) = true := by kernel_rfl
theorem tg_68 : TM.P.funcs[52]? = some Go.Proofs.Tryz.f52 := by kernel_rfl
theorem tn_68 : (Go.Proofs.Tryz.f52.name != "runtime.NumGoroutine" && !Go.Proofs.Tryz.f52.body.isNone) = true := by kernel_rfl
theorem tg_73 : TM.P.funcs[136]? = some Go.Proofs.Tryz.f136 := by kernel_rfl
theorem tn_73 : (Go.Proofs.Tryz.f136.name != "runtime.NumGoroutine" && !Go.Proofs.Tryz.f136.body.isNone) = true := by kernel_rfl
theorem tg_74 : TM.P.funcs[137]? = some Go.Proofs.Tryz.f137 := by kernel_rfl
theorem tn_74 : (Go.Proofs.Tryz.f137.name != "runtime.NumGoroutine" && !Go.Proofs.Tryz.f137.body.isNone) = true := by kernel_rfl
theorem tg_75 : TM.P.funcs[81]? = some Go.Proofs.Tryz.f81 := by kernel_rfl
theorem tn_75 : (Go.Proofs.Tryz.f81.name != "runtime.NumGoroutine" && !Go.Proofs.Tryz.f81.body.isNone) = true := by kernel_rfl
theorem tg_76 : TM.P.funcs[138]? = some Go.Proofs.Tryz.f138 := by kernel_rfl
theorem tn_76 : (Go.Proofs.Tryz.f138.name != "runtime.NumGoroutine" && !Go.Proofs.Tryz.f138.body.isNone) = true := by kernel_rfl
theorem tg_82 : TM.P.funcs[149]? = some Go.Proofs.Tryz.f149 := by kernel_rfl
theorem tn_82 : (Go.Proofs.Tryz.f149.name != "runtime.NumGoroutine" && !Go.Proofs.Tryz.f149.body.isNone) = true := by kernel_rfl
theorem tg_83 : TM.P.funcs[150]? = some Go.Proofs.Tryz.f150 := by kernel_rfl
theorem tn_83 : (Go.Proofs.Tryz.f150.name != "runtime.NumGoroutine" && !Go.Proofs.Tryz.f150.body.isNone) = true := by kernel_rfl
theorem tg_84 : TM.P.funcs[151]? = some Go.Proofs.Tryz.f151 := by kernel_rfl
theorem tn_84 : (Go.Proofs.Tryz.f151.name != "runtime.NumGoroutine" && !Go.Proofs.Tryz.f151.body.isNone) = true := by kernel_rfl
theorem tg_88 : TM.P.funcs[99]? = some Go.Proofs.Tryz.f99 := by kernel_rfl
theorem tn_88 : (Go.Proofs.Tryz.f99.name != "runtime.NumGoroutine" && !Go.Proofs.Tryz.f99.body.isNone) = true := by kernel_rfl
theorem tg_89 : TM.P.funcs[100]? = some Go.Proofs.Tryz.f100 := by kernel_rfl
theorem tn_89 : (Go.Proofs.Tryz.f100.name != "runtime.NumGoroutine" && !Go.Proofs.Tryz.f100.body.isNone) = true := by kernel_rfl
theorem tg_90 : TM.P.funcs[101]? = some Go.Proofs.Tryz.f101 := by kernel_rfl
theorem tn_90 : (Go.Proofs.Tryz.f101.name != "runtime.NumGoroutine" && !Go.Proofs.Tryz.f101.body.isNone) = true := by kernel_rfl
theorem tg_91 : TM.P.funcs[102]? = some Go.Proofs.Tryz.f102 := by kernel_rfl
theorem tn_91 : (Go.Proofs.Tryz.f102.name != "runtime.NumGoroutine" && !Go.Proofs.Tryz.f102.body.isNone) = true := by kernel_rfl
theorem tg_92 : TM.P.funcs[103]? = some Go.Proofs.Tryz.f103 := by kernel_rfl
theorem tn_92 : (Go.Proofs.Tryz.f103.name != "runtime.NumGoroutine" && !Go.Proofs.Tryz.f103.body.isNone) = true := by kernel_rfl
theorem tg_93 : TM.P.funcs[104]? = some Go.Proofs.Tryz.f104 := by kernel_rfl
theorem tn_93 : (Go.Proofs.Tryz.f104.name != "runtime.NumGoroutine" && !Go.Proofs.Tryz.f104.body.isNone) = true := by kernel_rfl
theorem tg_94 : TM.P.funcs[105]? = some Go.Proofs.Tryz.f105 := by kernel_rfl
theorem tn_94 : (Go.Proofs.Tryz.f105.name != "runtime.NumGoroutine" && !Go.Proofs.Tryz.f105.body.isNone) = true := by kernel_rfl
theorem tg_95 : TM.P.funcs[106]? = some Go.Proofs.Tryz.f106 := by kernel_rfl
theorem tn_95 : (Go.Proofs.Tryz.f106.name != "runtime.NumGoroutine" && !Go.Proofs.Tryz.f106.body.isNone) = true := by kernel_rfl
theorem tg_96 : TM.P.funcs[107]? = some Go.Proofs.Tryz.f107 := by kernel_rfl
theorem tn_96 : (Go.Proofs.Tryz.f107.name != "runtime.NumGoroutine" && !Go.Proofs.Tryz.f107.body.isNone) = true := by kernel_rfl
theorem tg_98 : TM.P.funcs[174]? = some Go.Proofs.Tryz.f174 := by kernel_rfl
theorem tn_98 : (Go.Proofs.Tryz.f174.name != "runtime.NumGoroutine" && !Go.Proofs.Tryz.f174.body.isNone) = true := by kernel_rfl
theorem tg_99 : TM.P.funcs[175]? = some Go.Proofs.Tryz.f175 := by kernel_rfl
theorem tn_99 : (Go.Proofs.Tryz.f175.name != "runtime.NumGoroutine" && !Go.Proofs.Tryz.f175.body.isNone) = true := by kernel_rfl
theorem tg_100 : TM.P.funcs[94]? = some Go.Proofs.Tryz.f94 := by kernel_rfl
theorem tn_100 : (Go.Proofs.Tryz.f94.name != "runtime.NumGoroutine" && !Go.Proofs.Tryz.f94.body.isNone) = true := by kernel_rfl
theorem tg_101 : TM.P.funcs[95]? = some Go.Proofs.Tryz.f95 := by kernel_rfl
theorem tn_101 : (Go.Proofs.Tryz.f95.name != "runtime.NumGoroutine" && !Go.Proofs.Tryz.f95.body.isNone) = true := by kernel_rfl
theorem tg_106 : TM.P.funcs[178]? = some Go.Proofs.Tryz.f178 := by kernel_rfl
theorem tn_106 : (Go.Proofs.Tryz.f178.name != "runtime.NumGoroutine" && !Go.Proofs.Tryz.f178.body.isNone) = true := by kernel_rfl
theorem tg_108 : TM.P.funcs[156]? = some Go.Proofs.Tryz.f156 := by kernel_rfl
theorem tn_108 : (Go.Proofs.Tryz.f156.name != "runtime.NumGoroutine" && !Go.Proofs.Tryz.f156.body.isNone) = true := by kernel_rfl
theorem tg_109 : TM.P.funcs[157]? = some Go.Proofs.Tryz.f157 := by kernel_rfl
theorem tn_109 : (Go.Proofs.Tryz.f157.name != "runtime.NumGoroutine" && !Go.Proofs.Tryz.f157.body.isNone) = true := by kernel_rfl
theorem tg_110 : TM.P.funcs[158]? = some Go.Proofs.Tryz.f158 := by kernel_rfl
theorem tn_110 : (Go.Proofs.Tryz.f158.name != "runtime.NumGoroutine" && !Go.Proofs.Tryz.f158.body.isNone) = true := by kernel_rfl
theorem tg_111 : TM.P.funcs[159]? = some Go.Proofs.Tryz.f159 := by kernel_rfl
theorem tn_111 : (Go.Proofs.Tryz.f159.name != "runtime.NumGoroutine" && !Go.Proofs.Tryz.f159.body.isNone) = true := by kernel_rfl
theorem tg_112 : TM.P.funcs[160]? = some Go.Proofs.Tryz.f160 := by kernel_rfl
theorem tn_112 : (Go.Proofs.Tryz.f160.name != "runtime.NumGoroutine" && !Go.Proofs.Tryz.f160.body.isNone) = true := by kernel_rfl
theorem tg_113 : TM.P.funcs[194]? = some Go.Proofs.Tryz.f194 := by kernel_rfl
theorem tn_113 : (Go.Proofs.Tryz.f194.name != "runtime.NumGoroutine" && !Go.Proofs.Tryz.f194.body.isNone) = true := by kernel_rfl
theorem tg_114 : TM.P.funcs[195]? = some Go.Proofs.Tryz.f195 := by kernel_rfl
theorem tn_114 : (Go.Proofs.Tryz.f195.name != "runtime.NumGoroutine" && !Go.Proofs.Tryz.f195.body.isNone) = true := by kernel_rfl
theorem tg_115 : TM.P.funcs[119]? = some Go.Proofs.Tryz.f119 := by kernel_rfl
theorem tn_115 : (Go.Proofs.Tryz.f119.name != "runtime.NumGoroutine" && !Go.Proofs.Tryz.f119.body.isNone) = true := by kernel_rfl
theorem tg_116 : TM.P.funcs[152]? = some Go.Proofs.Tryz.f152 := by kernel_rfl
theorem tn_116 : (Go.Proofs.Tryz.f152.name != "runtime.NumGoroutine" && !Go.Proofs.Tryz.f152.body.isNone) = true := by kernel_rfl
theorem tg_117 : TM.P.funcs[153]? = some Go.Proofs.Tryz.f153 := by kernel_rfl
theorem tn_117 : (Go.Proofs.Tryz.f153.name != "runtime.NumGoroutine" && !Go.Proofs.Tryz.f153.body.isNone) = true := by kernel_rfl
theorem tg_118 : TM.P.funcs[154]? = some Go.Proofs.Tryz.f154 := by kernel_rfl
theorem tn_118 : (Go.Proofs.Tryz.f154.name != "runtime.NumGoroutine" && !Go.Proofs.Tryz.f154.body.isNone) = true := by kernel_rfl
theorem tg_119 : TM.P.funcs[155]? = some Go.Proofs.Tryz.f155 := by kernel_rfl
theorem tn_119 : (Go.Proofs.Tryz.f155.name != "runtime.NumGoroutine" && !Go.Proofs.Tryz.f155.body.isNone) = true := by kernel_rfl
theorem tg_122 : TM.P.funcs[177]? = some Go.Proofs.Tryz.f177 := by kernel_rfl
theorem tn_122 : (Go.Proofs.Tryz.f177.name != "runtime.NumGoroutine" && !Go.Proofs.Tryz.f177.body.isNone) = true := by kernel_rfl
theorem tg_123 : TM.P.funcs[203]? = some Go.Proofs.Tryz.f203 := by kernel_rfl
theorem tn_123 : (Go.Proofs.Tryz.f203.name != "runtime.NumGoroutine" && !Go.Proofs.Tryz.f203.body.isNone) = true := by kernel_rfl
theorem tg_124 : TM.P.funcs[204]? = some Go.Proofs.Tryz.f204 := by kernel_rfl
theorem tn_124 : (Go.Proofs.Tryz.f204.name != "runtime.NumGoroutine" && !Go.Proofs.Tryz.f204.body.isNone) = true := by kernel_rfl
theorem tg_125 : TM.P.funcs[205]? = some Go.Proofs.Tryz.f205 := by kernel_rfl
theorem tn_125 : (Go.Proofs.Tryz.f205.name != "runtime.NumGoroutine" && !Go.Proofs.Tryz.f205.body.isNone) = true := by kernel_rfl
theorem tg_126 : TM.P.funcs[206]? = some Go.Proofs.Tryz.f206 := by kernel_rfl
theorem tn_126 : (Go.Proofs.Tryz.f206.name != "runtime.NumGoroutine" && !Go.Proofs.Tryz.f206.body.isNone) = true := by kernel_rfl
theorem tg_127 : TM.P.funcs[179]? = some Go.Proofs.Tryz.f179 := by kernel_rfl
theorem tn_127 : (Go.Proofs.Tryz.f179.name != "runtime.NumGoroutine" && !Go.Proofs.Tryz.f179.body.isNone) = true := by kernel_rfl
theorem tg_128 : TM.P.funcs[180]? = some Go.Proofs.Tryz.f180 := by kernel_rfl
theorem tn_128 : (Go.Proofs.Tryz.f180.name != "runtime.NumGoroutine" && !Go.Proofs.Tryz.f180.body.isNone) = true := by kernel_rfl
theorem tg_129 : TM.P.funcs[181]? = some Go.Proofs.Tryz.f181 := by kernel_rfl
theorem tn_129 : (Go.Proofs.Tryz.f181.name != "runtime.NumGoroutine" && !Go.Proofs.Tryz.f181.body.isNone) = true := by kernel_rfl
theorem tg_130 : TM.P.funcs[182]? = some Go.Proofs.Tryz.f182 := by kernel_rfl
theorem tn_130 : (Go.Proofs.Tryz.f182.name != "runtime.NumGoroutine" && !Go.Proofs.Tryz.f182.body.isNone) = true := by kernel_rfl
theorem tg_131 : TM.P.funcs[183]? = some Go.Proofs.Tryz.f183 := by kernel_rfl
theorem tn_131 : (Go.Proofs.Tryz.f183.name != "runtime.NumGoroutine" && !Go.Proofs.Tryz.f183.body.isNone) = true := by kernel_rfl
theorem tg_132 : TM.P.funcs[184]? = some Go.Proofs.Tryz.f184 := by kernel_rfl
theorem tn_132 : (Go.Proofs.Tryz.f184.name != "runtime.NumGoroutine" && !Go.Proofs.Tryz.f184.body.isNone) = true := by kernel_rfl
theorem tg_133 : TM.P.funcs[185]? = some Go.Proofs.Tryz.f185 := by kernel_rfl
theorem tn_133 : (Go.Proofs.Tryz.f185.name != "runtime.NumGoroutine" && !Go.Proofs.Tryz.f185.body.isNone) = true := by kernel_rfl
theorem tg_134 : TM.P.funcs[196]? = some Go.Proofs.Tryz.f196 := by kernel_rfl
theorem tn_134 : (Go.Proofs.Tryz.f196.name != "runtime.NumGoroutine" && !Go.Proofs.Tryz.f196.body.isNone) = true := by kernel_rfl
theorem tg_135 : TM.P.funcs[197]? = some Go.Proofs.Tryz.f197 := by kernel_rfl
theorem tn_135 : (Go.Proofs.Tryz.f197.name != "runtime.NumGoroutine" && !Go.Proofs.Tryz.f197.body.isNone) = true := by kernel_rfl
theorem tg_136 : TM.P.funcs[198]? = some Go.Proofs.Tryz.f198 := by kernel_rfl
theorem tn_136 : (Go.Proofs.Tryz.f198.name != "runtime.NumGoroutine" && !Go.Proofs.Tryz.f198.body.isNone) = true := by kernel_rfl
theorem tg_137 : TM.P.funcs[199]? = some Go.Proofs.Tryz.f199 := by kernel_rfl
theorem tn_137 : (Go.Proofs.Tryz.f199.name != "runtime.NumGoroutine" && !Go.Proofs.Tryz.f199.body.isNone) = true := by kernel_rfl
theorem tg_138 : TM.P.funcs[200]? = some Go.Proofs.Tryz.f200 := by kernel_rfl
theorem tn_138 : (Go.Proofs.Tryz.f200.name != "runtime.NumGoroutine" && !Go.Proofs.Tryz.f200.body.isNone) = true := by kernel_rfl
theorem tg_139 : TM.P.funcs[201]? = some Go.Proofs.Tryz.f201 := by kernel_rfl
theorem tn_139 : (Go.Proofs.Tryz.f201.name != "runtime.NumGoroutine" && !Go.Proofs.Tryz.f201.body.isNone) = true := by kernel_rfl
theorem tg_140 : TM.P.funcs[202]? = some Go.Proofs.Tryz.f202 := by kernel_rfl
theorem tn_140 : (Go.Proofs.Tryz.f202.name != "runtime.NumGoroutine" && !Go.Proofs.Tryz.f202.body.isNone) = true := by kernel_rfl
theorem tg_157 : TM.P.funcs[46]? = some Go.Proofs.Tryz.f46 := by kernel_rfl
theorem tn_157 : (Go.Proofs.Tryz.f46.name != "runtime.NumGoroutine" && !Go.Proofs.Tryz.f46.body.isNone) = true := by kernel_rfl
theorem tg_168 : TM.P.funcs[8]? = some Go.Proofs.Tryz.f8 := by kernel_rfl
theorem tn_168 : (Go.Proofs.Tryz.f8.name != "runtime.NumGoroutine" && !Go.Proofs.Tryz.f8.body.isNone) = true := by kernel_rfl
theorem tg_171 : TM.P.funcs[11]? = some Go.Proofs.Tryz.f11 := by kernel_rfl
theorem tn_171 : (Go.Proofs.Tryz.f11.name != "runtime.NumGoroutine" && !Go.Proofs.Tryz.f11.body.isNone) = true := by kernel_rfl
theorem tg_172 : TM.P.funcs[12]? = some Go.Proofs.Tryz.f12 := by kernel_rfl
theorem tn_172 : (Go.Proofs.Tryz.f12.name != "runtime.NumGoroutine" && !Go.Proofs.Tryz.f12.body.isNone) = true := by kernel_rfl
theorem tg_173 : TM.P.funcs[13]? = some Go.Proofs.Tryz.f13 := by kernel_rfl
theorem tn_173 : (Go.Proofs.Tryz.f13.name != "runtime.NumGoroutine" && !Go.Proofs.Tryz.f13.body.isNone) = true := by kernel_rfl
theorem tg_174 : TM.P.funcs[14]? = some Go.Proofs.Tryz.f14 := by kernel_rfl
theorem tn_174 : (Go.Proofs.Tryz.f14.name != "runtime.NumGoroutine" && !Go.Proofs.Tryz.f14.body.isNone) = true := by kernel_rfl
theorem tg_180 : TM.P.funcs[30]? = some Go.Proofs.Tryz.f30 := by kernel_rfl
theorem tn_180 : (Go.Proofs.Tryz.f30.name != "runtime.NumGoroutine" && !Go.Proofs.Tryz.f30.body.isNone) = true := by kernel_rfl
theorem tg_183 : TM.P.funcs[33]? = some Go.Proofs.Tryz.f33 := by kernel_rfl
theorem tn_183 : (Go.Proofs.Tryz.f33.name != "runtime.NumGoroutine" && !Go.Proofs.Tryz.f33.body.isNone) = true := by kernel_rfl
theorem tg_184 : TM.P.funcs[34]? = some Go.Proofs.Tryz.f34 := by kernel_rfl
theorem tn_184 : (Go.Proofs.Tryz.f34.name != "runtime.NumGoroutine" && !Go.Proofs.Tryz.f34.body.isNone) = true := by kernel_rfl
theorem tg_186 : TM.P.funcs[42]? = some Go.Proofs.Tryz.f42 := by kernel_rfl
theorem tn_186 : (Go.Proofs.Tryz.f42.name != "runtime.NumGoroutine" && !Go.Proofs.Tryz.f42.body.isNone) = true := by kernel_rfl
theorem tg_187 : TM.P.funcs[45]? = some Go.Proofs.Tryz.f45 := by kernel_rfl
theorem tn_187 : (Go.Proofs.Tryz.f45.name != "runtime.NumGoroutine" && !Go.Proofs.Tryz.f45.body.isNone) = true := by kernel_rfl
theorem tg_188 : TM.P.funcs[47]? = some Go.Proofs.Tryz.f47 := by kernel_rfl
theorem tn_188 : (Go.Proofs.Tryz.f47.name != "runtime.NumGoroutine" && !Go.Proofs.Tryz.f47.body.isNone) = true := by kernel_rfl
theorem tg_189 : TM.P.funcs[48]? = some Go.Proofs.Tryz.f48 := by kernel_rfl
theorem tn_189 : (Go.Proofs.Tryz.f48.name != "runtime.NumGoroutine" && !Go.Proofs.Tryz.f48.body.isNone) = true := by kernel_rfl
theorem tg_190 : TM.P.funcs[49]? = some Go.Proofs.Tryz.f49 := by kernel_rfl
theorem tn_190 : (Go.Proofs.Tryz.f49.name != "runtime.NumGoroutine" && !Go.Proofs.Tryz.f49.body.isNone) = true := by kernel_rfl
theorem tg_204 : TM.P.funcs[80]? = some Go.Proofs.Tryz.f80 := by kernel_rfl
theorem tn_204 : (Go.Proofs.Tryz.f80.name != "runtime.NumGoroutine" && !Go.Proofs.Tryz.f80.body.isNone) = true := by kernel_rfl
theorem tg_206 : TM.P.funcs[83]? = some Go.Proofs.Tryz.f83 := by kernel_rfl
theorem tn_206 : (Go.Proofs.Tryz.f83.name != "runtime.NumGoroutine" && !Go.Proofs.Tryz.f83.body.isNone) = true := by kernel_rfl
theorem tg_209 : TM.P.funcs[98]? = some Go.Proofs.Tryz.f98 := by kernel_rfl
theorem tn_209 : (Go.Proofs.Tryz.f98.name != "runtime.NumGoroutine" && !Go.Proofs.Tryz.f98.body.isNone) = true := by kernel_rfl
theorem tg_225 : TM.P.funcs[140]? = some Go.Proofs.Tryz.f140 := by kernel_rfl
theorem tn_225 : (Go.Proofs.Tryz.f140.name != "runtime.NumGoroutine" && !Go.Proofs.Tryz.f140.body.isNone) = true := by kernel_rfl
theorem tg_226 : TM.P.funcs[141]? = some Go.Proofs.Tryz.f141 := by kernel_rfl
theorem tn_226 : (Go.Proofs.Tryz.f141.name != "runtime.NumGoroutine" && !Go.Proofs.Tryz.f141.body.isNone) = true := by kernel_rfl
theorem tg_227 : TM.P.funcs[142]? = some Go.Proofs.Tryz.f142 := by kernel_rfl
theorem tn_227 : (Go.Proofs.Tryz.f142.name != "runtime.NumGoroutine" && !Go.Proofs.Tryz.f142.body.isNone) = true := by kernel_rfl
theorem tg_228 : TM.P.funcs[143]? = some Go.Proofs.Tryz.f143 := by kernel_rfl
theorem tn_228 : (Go.Proofs.Tryz.f143.name != "runtime.NumGoroutine" && !Go.Proofs.Tryz.f143.body.isNone) = true := by kernel_rfl
theorem tg_229 : TM.P.funcs[144]? = some Go.Proofs.Tryz.f144 := by kernel_rfl
theorem tn_229 : (Go.Proofs.Tryz.f144.name != "runtime.NumGoroutine" && !Go.Proofs.Tryz.f144.body.isNone) = true := by kernel_rfl
theorem tg_230 : TM.P.funcs[145]? = some Go.Proofs.Tryz.f145 := by kernel_rfl
theorem tn_230 : (Go.Proofs.Tryz.f145.name != "runtime.NumGoroutine" && !Go.Proofs.Tryz.f145.body.isNone) = true := by kernel_rfl
theorem tg_237 : TM.P.funcs[176]? = some Go.Proofs.Tryz.f176 := by kernel_rfl
theorem tn_237 : (Go.Proofs.Tryz.f176.name != "runtime.NumGoroutine" && !Go.Proofs.Tryz.f176.body.isNone) = true := by kernel_rfl
theorem tg_242 : TM.P.funcs[222]? = some Go.Proofs.Tryz.f222 := by kernel_rfl
theorem tn_242 : (Go.Proofs.Tryz.f222.name != "runtime.NumGoroutine" && !Go.Proofs.Tryz.f222.body.isNone) = true := by kernel_rfl
theorem tg_243 : TM.P.funcs[223]? = some Go.Proofs.Tryz.f223 := by kernel_rfl
theorem tn_243 : (Go.Proofs.Tryz.f223.name != "runtime.NumGoroutine" && !Go.Proofs.Tryz.f223.body.isNone) = true := by kernel_rfl
theorem tg_244 : TM.P.funcs[224]? = some Go.Proofs.Tryz.f224 := by kernel_rfl
theorem tn_244 : (Go.Proofs.Tryz.f224.name != "runtime.NumGoroutine" && !Go.Proofs.Tryz.f224.body.isNone) = true := by kernel_rfl
theorem tg_245 : TM.P.funcs[225]? = some Go.Proofs.Tryz.f225 := by kernel_rfl
theorem tn_245 : (Go.Proofs.Tryz.f225.name != "runtime.NumGoroutine" && !Go.Proofs.Tryz.f225.body.isNone) = true := by kernel_rfl
theorem tg_246 : TM.P.funcs[226]? = some Go.Proofs.Tryz.f226 := by kernel_rfl
theorem tn_246 : (Go.Proofs.Tryz.f226.name != "runtime.NumGoroutine" && !Go.Proofs.Tryz.f226.body.isNone) = true := by kernel_rfl
theorem tg_247 : TM.P.funcs[227]? = some Go.Proofs.Tryz.f227 := by kernel_rfl
theorem tn_247 : (Go.Proofs.Tryz.f227.name != "runtime.NumGoroutine" && !Go.Proofs.Tryz.f227.body.isNone) = true := by kernel_rfl
theorem tg_248 : TM.P.funcs[228]? = some Go.Proofs.Tryz.f228 := by kernel_rfl
theorem tn_248 : (Go.Proofs.Tryz.f228.name != "runtime.NumGoroutine" && !Go.Proofs.Tryz.f228.body.isNone) = true := by kernel_rfl
theorem tg_249 : TM.P.funcs[229]? = some Go.Proofs.Tryz.f229 := by kernel_rfl
theorem tn_249 : (Go.Proofs.Tryz.f229.name != "runtime.NumGoroutine" && !Go.Proofs.Tryz.f229.body.isNone) = true := by kernel_rfl
theorem tg_250 : TM.P.funcs[230]? = some Go.Proofs.Tryz.f230 := by kernel_rfl
theorem tn_250 : (Go.Proofs.Tryz.f230.name != "runtime.NumGoroutine" && !Go.Proofs.Tryz.f230.body.isNone) = true := by kernel_rfl
theorem tg_251 : TM.P.funcs[231]? = some Go.Proofs.Tryz.f231 := by kernel_rfl
theorem tn_251 : (Go.Proofs.Tryz.f231.name != "runtime.NumGoroutine" && !Go.Proofs.Tryz.f231.body.isNone) = true := by kernel_rfl
theorem tg_252 : TM.P.funcs[232]? = some Go.Proofs.Tryz.f232 := by kernel_rfl
theorem tn_252 : (Go.Proofs.Tryz.f232.name != "runtime.NumGoroutine" && !Go.Proofs.Tryz.f232.body.isNone) = true := by kernel_rfl
theorem ck_25 : chkFn TM c_25 Go.Proofs.Tryz.f40 = true := by kernel_rfl
theorem ck_26 : chkFn TM c_26 Go.Proofs.Tryz.f16 = true := by kernel_rfl
theorem ck_35 : chkFn TM c_35 Go.Proofs.Tryz.f15 = true := by kernel_rfl
theorem ck_36 : chkFn TM c_36 Go.Proofs.Tryz.f139 = true := by kernel_rfl
theorem ck_40 : chkFn TM c_40 Go.Proofs.Tryz.f43 = true := by kernel_rfl
theorem ck_44 : chkFn TM c_44 Go.Proofs.Tryz.f79 = true := by kernel_rfl
theorem ck_45 : chkFn TM c_45 Go.Proofs.Tryz.f78 = true := by kernel_rfl
theorem ck_48 : chkFn TM c_48 Go.Proofs.Tryz.f97 = true := by kernel_rfl
theorem ck_49 : chkFn TM c_49 Go.Proofs.Tryz.f96 = true := by kernel_rfl
theorem ck_54 : chkFn TM c_54 Go.Proofs.Tryz.f90 = true := by kernel_rfl
theorem ck_55 : chkFn TM c_55 Go.Proofs.Tryz.f41 = true := by kernel_rfl
theorem ck_56 : chkFn TM c_56 Go.Proofs.Tryz.f91 = true := by kernel_rfl
theorem ck_57 : chkFn TM c_57 Go.Proofs.Tryz.f92 = true := by kernel_rfl
theorem ck_58 : chkFn TM c_58 Go.Proofs.Tryz.f93 = true := by kernel_rfl
theorem ck_65 : chkFn TM c_65 Go.Proofs.Tryz.f50 = true := by kernel_rfl
theorem ck_66 : chkFn TM c_66 Go.Proofs.Tryz.f44 = true := by kernel_rfl
theorem ck_67 : chkFn TM c_67 Go.Proofs.Tryz.f51 = true := by kernel_rfl
theorem ck_68 : chkFn TM c_68 Go.Proofs.Tryz.f52 = true := by kernel_rfl
theorem ck_73 : chkFn TM c_73 Go.Proofs.Tryz.f136 = true := by kernel_rfl
theorem ck_74 : chkFn TM c_74 Go.Proofs.Tryz.f137 = true := by kernel_rfl
theorem ck_75 : chkFn TM c_75 Go.Proofs.Tryz.f81 = true := by kernel_rfl
theorem ck_76 : chkFn TM c_76 Go.Proofs.Tryz.f138 = true := by kernel_rfl
theorem ck_82 : chkFn TM c_82 Go.Proofs.Tryz.f149 = true := by kernel_rfl
theorem ck_83 : chkFn TM c_83 Go.Proofs.Tryz.f150 = true := by kernel_rfl
theorem ck_84 : chkFn TM c_84 Go.Proofs.Tryz.f151 = true := by kernel_rfl
theorem ck_88 : chkFn TM c_88 Go.Proofs.Tryz.f99 = true := by kernel_rfl
theorem ck_89 : chkFn TM c_89 Go.Proofs.Tryz.f100 = true := by kernel_rfl
theorem ck_90 : chkFn TM c_90 Go.Proofs.Tryz.f101 = true := by kernel_rfl
theorem ck_91 : chkFn TM c_91 Go.Proofs.Tryz.f102 = true := by kernel_rfl
theorem ck_92 : chkFn TM c_92 Go.Proofs.Tryz.f103 = true := by kernel_rfl
theorem ck_93 : chkFn TM c_93 Go.Proofs.Tryz.f104 = true := by kernel_rfl
theorem ck_94 : chkFn TM c_94 Go.Proofs.Tryz.f105 = true := by kernel_rfl
theorem ck_95 : chkFn TM c_95 Go.Proofs.Tryz.f106 = true := by kernel_rfl
theorem ck_96 : chkFn TM c_96 Go.Proofs.Tryz.f107 = true := by kernel_rfl
theorem ck_98 : chkFn TM c_98 Go.Proofs.Tryz.f174 = true := by kernel_rfl
theorem ck_99 : chkFn TM c_99 Go.Proofs.Tryz.f175 = true := by kernel_rfl
theorem ck_100 : chkFn TM c_100 Go.Proofs.Tryz.f94 = true := by kernel_rfl
theorem ck_101 : chkFn TM c_101 Go.Proofs.Tryz.f95 = true := by kernel_rfl
theorem ck_106 : chkFn TM c_106 Go.Proofs.Tryz.f178 = true := by kernel_rfl
theorem ck_108 : chkFn TM c_108 Go.Proofs.Tryz.f156 = true := by kernel_rfl
theorem ck_109 : chkFn TM c_109 Go.Proofs.Tryz.f157 = true := by kernel_rfl
theorem ck_110 : chkFn TM c_110 Go.Proofs.Tryz.f158 = true := by kernel_rfl
theorem ck_111 : chkFn TM c_111 Go.Proofs.Tryz.f159 = true := by kernel_rfl
theorem ck_112 : chkFn TM c_112 Go.Proofs.Tryz.f160 = true := by kernel_rfl
theorem ck_113 : chkFn TM c_113 Go.Proofs.Tryz.f194 = true := by kernel_rfl
theorem ck_114 : chkFn TM c_114 Go.Proofs.Tryz.f195 = true := by kernel_rfl
theorem ck_115 : chkFn TM c_115 Go.Proofs.Tryz.f119 = true := by kernel_rfl
theorem ck_116 : chkFn TM c_116 Go.Proofs.Tryz.f152 = true := by kernel_rfl
theorem ck_117 : chkFn TM c_117 Go.Proofs.Tryz.f153 = true := by kernel_rfl
theorem ck_118 : chkFn TM c_118 Go.Proofs.Tryz.f154 = true := by kernel_rfl
theorem ck_119 : chkFn TM c_119 Go.Proofs.Tryz.f155 = true := by kernel_rfl
theorem ck_122 : chkFn TM c_122 Go.Proofs.Tryz.f177 = true := by kernel_rfl
theorem ck_123 : chkFn TM c_123 Go.Proofs.Tryz.f203 = true := by kernel_rfl
theorem ck_124 : chkFn TM c_124 Go.Proofs.Tryz.f204 = true := by kernel_rfl
theorem ck_125 : chkFn TM c_125 Go.Proofs.Tryz.f205 = true := by kernel_rfl
theorem ck_126 : chkFn TM c_126 Go.Proofs.Tryz.f206 = true := by kernel_rfl
theorem ck_127 : chkFn TM c_127 Go.Proofs.Tryz.f179 = true := by kernel_rfl
theorem ck_128 : chkFn TM c_128 Go.Proofs.Tryz.f180 = true := by kernel_rfl
theorem ck_129 : chkFn TM c_129 Go.Proofs.Tryz.f181 = true := by kernel_rfl
theorem ck_130 : chkFn TM c_130 Go.Proofs.Tryz.f182 = true := by kernel_rfl
theorem ck_131 : chkFn TM c_131 Go.Proofs.Tryz.f183 = true := by kernel_rfl
theorem ck_132 : chkFn TM c_132 Go.Proofs.Tryz.f184 = true := by kernel_rfl
theorem ck_133 : chkFn TM c_133 Go.Proofs.Tryz.f185 = true := by kernel_rfl
theorem ck_134 : chkFn TM c_134 Go.Proofs.Tryz.f196 = true := by kernel_rfl
theorem ck_135 : chkFn TM c_135 Go.Proofs.Tryz.f197 = true := by kernel_rfl
theorem ck_136 : chkFn TM c_136 Go.Proofs.Tryz.f198 = true := by kernel_rfl
theorem ck_137 : chkFn TM c_137 Go.Proofs.Tryz.f199 = true := by kernel_rfl
theorem ck_138 : chkFn TM c_138 Go.Proofs.Tryz.f200 = true := by kernel_rfl
theorem ck_139 : chkFn TM c_139 Go.Proofs.Tryz.f201 = true := by kernel_rfl
theorem ck_140 : chkFn TM c_140 Go.Proofs.Tryz.f202 = true := by kernel_rfl
theorem ck_157 : chkFn TM c_157 Go.Proofs.Tryz.f46 = true := by kernel_rfl
theorem ck_168 : chkFn TM c_168 Go.Proofs.Tryz.f8 = true := by kernel_rfl
theorem ck_171 : chkFn TM c_171 Go.Proofs.Tryz.f11 = true := by kernel_rfl
theorem ck_172 : chkFn TM c_172 Go.Proofs.Tryz.f12 = true := by kernel_rfl
theorem ck_173 : chkFn TM c_173 Go.Proofs.Tryz.f13 = true := by kernel_rfl
theorem ck_174 : chkFn TM c_174 Go.Proofs.Tryz.f14 = true := by kernel_rfl
theorem ck_180 : chkFn TM c_180 Go.Proofs.Tryz.f30 = true := by kernel_rfl
theorem ck_183 : chkFn TM c_183 Go.Proofs.Tryz.f33 = true := by kernel_rfl
theorem ck_184 : chkFn TM c_184 Go.Proofs.Tryz.f34 = true := by kernel_rfl
theorem ck_186 : chkFn TM c_186 Go.Proofs.Tryz.f42 = true := by kernel_rfl
theorem ck_187 : chkFn TM c_187 Go.Proofs.Tryz.f45 = true := by kernel_rfl
theorem ck_188 : chkFn TM c_188 Go.Proofs.Tryz.f47 = true := by kernel_rfl
theorem ck_189 : chkFn TM c_189 Go.Proofs.Tryz.f48 = true := by kernel_rfl
theorem ck_190 : chkFn TM c_190 Go.Proofs.Tryz.f49 = true := by kernel_rfl
theorem ck_204 : chkFn TM c_204 Go.Proofs.Tryz.f80 = true := by kernel_rfl
theorem ck_206 : chkFn TM c_206 Go.Proofs.Tryz.f83 = true := by kernel_rfl
theorem ck_209 : chkFn TM c_209 Go.Proofs.Tryz.f98 = true := by kernel_rfl
theorem ck_225 : chkFn TM c_225 Go.Proofs.Tryz.f140 = true := by kernel_rfl
theorem ck_226 : chkFn TM c_226 Go.Proofs.Tryz.f141 = true := by kernel_rfl
theorem ck_227 : chkFn TM c_227 Go.Proofs.Tryz.f142 = true := by kernel_rfl
theorem ck_228 : chkFn TM c_228 Go.Proofs.Tryz.f143 = true := by kernel_rfl
theorem ck_229 : chkFn TM c_229 Go.Proofs.Tryz.f144 = true := by kernel_rfl
theorem ck_230 : chkFn TM c_230 Go.Proofs.Tryz.f145 = true := by kernel_rfl
theorem ck_237 : chkFn TM c_237 Go.Proofs.Tryz.f176 = true := by kernel_rfl
theorem ck_242 : chkFn TM c_242 Go.Proofs.Tryz.f222 = true := by kernel_rfl
theorem ck_243 : chkFn TM c_243 Go.Proofs.Tryz.f223 = true := by kernel_rfl
theorem ck_244 : chkFn TM c_244 Go.Proofs.Tryz.f224 = true := by kernel_rfl
theorem ck_245 : chkFn TM c_245 Go.Proofs.Tryz.f225 = true := by kernel_rfl
theorem ck_246 : chkFn TM c_246 Go.Proofs.Tryz.f226 = true := by kernel_rfl
theorem ck_247 : chkFn TM c_247 Go.Proofs.Tryz.f227 = true := by kernel_rfl
theorem ck_248 : chkFn TM c_248 Go.Proofs.Tryz.f228 = true := by kernel_rfl
theorem ck_249 : chkFn TM c_249 Go.Proofs.Tryz.f229 = true := by kernel_rfl
theorem ck_250 : chkFn TM c_250 Go.Proofs.Tryz.f230 = true := by kernel_rfl
theorem ck_251 : chkFn TM c_251 Go.Proofs.Tryz.f231 = true := by kernel_rfl
theorem ck_252 : chkFn TM c_252 Go.Proofs.Tryz.f232 = true := by kernel_rfl
def AllE : List (Nat × Nat) → Prop
  | [] => True
  | e :: r => (∃ fn af, TM.P.funcs[e.2]? = some fn ∧ AP e.1 = some af ∧ chkFn TM af fn = true ∧ (fn.name != "runtime.NumGoroutine" && !fn.body.isNone) = true) ∧ AllE r
theorem allE : AllE fmT := ⟨⟨_, _, tg_25, AP_25, ck_25, tn_25⟩, ⟨_, _, tg_26, AP_26, ck_26, tn_26⟩, ⟨_, _, tg_35, AP_35, ck_35, tn_35⟩, ⟨_, _, tg_36, AP_36, ck_36, tn_36⟩, ⟨_, _, tg_40, AP_40, ck_40, tn_40⟩, ⟨_, _, tg_44, AP_44, ck_44, tn_44⟩, ⟨_, _, tg_45, AP_45, ck_45, tn_45⟩, ⟨_, _, tg_48, AP_48, ck_48, tn_48⟩, ⟨_, _, tg_49, AP_49, ck_49, tn_49⟩, ⟨_, _, tg_54, AP_54, ck_54, tn_54⟩, ⟨_, _, tg_55, AP_55, ck_55, tn_55⟩, ⟨_, _, tg_56, AP_56, ck_56, tn_56⟩, ⟨_, _, tg_57, AP_57, ck_57, tn_57⟩, ⟨_, _, tg_58, AP_58, ck_58, tn_58⟩, ⟨_, _, tg_65, AP_65, ck_65, tn_65⟩, ⟨_, _, tg_66, AP_66, ck_66, tn_66⟩, ⟨_, _, tg_67, AP_67, ck_67, tn_67⟩, ⟨_, _, tg_68, AP_68, ck_68, tn_68⟩, ⟨_, _, tg_73, AP_73, ck_73, tn_73⟩, ⟨_, _, tg_74, AP_74, ck_74, tn_74⟩, ⟨_, _, tg_75, AP_75, ck_75, tn_75⟩, ⟨_, _, tg_76, AP_76, ck_76, tn_76⟩, ⟨_, _, tg_82, AP_82, ck_82, tn_82⟩, ⟨_, _, tg_83, AP_83, ck_83, tn_83⟩, ⟨_, _, tg_84, AP_84, ck_84, tn_84⟩, ⟨_, _, tg_88, AP_88, ck_88, tn_88⟩, ⟨_, _, tg_89, AP_89, ck_89, tn_89⟩, ⟨_, _, tg_90, AP_90, ck_90, tn_90⟩, ⟨_, _, tg_91, AP_91, ck_91, tn_91⟩, ⟨_, _, tg_92, AP_92, ck_92, tn_92⟩, ⟨_, _, tg_93, AP_93, ck_93, tn_93⟩, ⟨_, _, tg_94, AP_94, ck_94, tn_94⟩, ⟨_, _, tg_95, AP_95, ck_95, tn_95⟩, ⟨_, _, tg_96, AP_96, ck_96, tn_96⟩, ⟨_, _, tg_98, AP_98, ck_98, tn_98⟩, ⟨_, _, tg_99, AP_99, ck_99, tn_99⟩, ⟨_, _, tg_100, AP_100, ck_100, tn_100⟩, ⟨_, _, tg_101, AP_101, ck_101, tn_101⟩, ⟨_, _, tg_106, AP_106, ck_106, tn_106⟩, ⟨_, _, tg_108, AP_108, ck_108, tn_108⟩, ⟨_, _, tg_109, AP_109, ck_109, tn_109⟩, ⟨_, _, tg_110, AP_110, ck_110, tn_110⟩, ⟨_, _, tg_111, AP_111, ck_111, tn_111⟩, ⟨_, _, tg_112, AP_112, ck_112, tn_112⟩, ⟨_, _, tg_113, AP_113, ck_113, tn_113⟩, ⟨_, _, tg_114, AP_114, ck_114, tn_114⟩, ⟨_, _, tg_115, AP_115, ck_115, tn_115⟩, ⟨_, _, tg_116, AP_116, ck_116, tn_116⟩, ⟨_, _, tg_117, AP_117, ck_117, tn_117⟩, ⟨_, _, tg_118, AP_118, ck_118, tn_118⟩, ⟨_, _, tg_119, AP_119, ck_119, tn_119⟩, ⟨_, _, tg_122, AP_122, ck_122, tn_122⟩, ⟨_, _, tg_123, AP_123, ck_123, tn_123⟩, ⟨_, _, tg_124, AP_124, ck_124, tn_124⟩, ⟨_, _, tg_125, AP_125, ck_125, tn_125⟩, ⟨_, _, tg_126, AP_126, ck_126, tn_126⟩, ⟨_, _, tg_127, AP_127, ck_127, tn_127⟩, ⟨_, _, tg_128, AP_128, ck_128, tn_128⟩, ⟨_, _, tg_129, AP_129, ck_129, tn_129⟩, ⟨_, _, tg_130, AP_130, ck_130, tn_130⟩, ⟨_, _, tg_131, AP_131, ck_131, tn_131⟩, ⟨_, _, tg_132, AP_132, ck_132, tn_132⟩, ⟨_, _, tg_133, AP_133, ck_133, tn_133⟩, ⟨_, _, tg_134, AP_134, ck_134, tn_134⟩, ⟨_, _, tg_135, AP_135, ck_135, tn_135⟩, ⟨_, _, tg_136, AP_136, ck_136, tn_136⟩, ⟨_, _, tg_137, AP_137, ck_137, tn_137⟩, ⟨_, _, tg_138, AP_138, ck_138, tn_138⟩, ⟨_, _, tg_139, AP_139, ck_139, tn_139⟩, ⟨_, _, tg_140, AP_140, ck_140, tn_140⟩, ⟨_, _, tg_157, AP_157, ck_157, tn_157⟩, ⟨_, _, tg_168, AP_168, ck_168, tn_168⟩, ⟨_, _, tg_171, AP_171, ck_171, tn_171⟩, ⟨_, _, tg_172, AP_172, ck_172, tn_172⟩, ⟨_, _, tg_173, AP_173, ck_173, tn_173⟩, ⟨_, _, tg_174, AP_174, ck_174, tn_174⟩, ⟨_, _, tg_180, AP_180, ck_180, tn_180⟩, ⟨_, _, tg_183, AP_183, ck_183, tn_183⟩, ⟨_, _, tg_184, AP_184, ck_184, tn_184⟩, ⟨_, _, tg_186, AP_186, ck_186, tn_186⟩, ⟨_, _, tg_187, AP_187, ck_187, tn_187⟩, ⟨_, _, tg_188, AP_188, ck_188, tn_188⟩, ⟨_, _, tg_189, AP_189, ck_189, tn_189⟩, ⟨_, _, tg_190, AP_190, ck_190, tn_190⟩, ⟨_, _, tg_204, AP_204, ck_204, tn_204⟩, ⟨_, _, tg_206, AP_206, ck_206, tn_206⟩, ⟨_, _, tg_209, AP_209, ck_209, tn_209⟩, ⟨_, _, tg_225, AP_225, ck_225, tn_225⟩, ⟨_, _, tg_226, AP_226, ck_226, tn_226⟩, ⟨_, _, tg_227, AP_227, ck_227, tn_227⟩, ⟨_, _, tg_228, AP_228, ck_228, tn_228⟩, ⟨_, _, tg_229, AP_229, ck_229, tn_229⟩, ⟨_, _, tg_230, AP_230, ck_230, tn_230⟩, ⟨_, _, tg_237, AP_237, ck_237, tn_237⟩, ⟨_, _, tg_242, AP_242, ck_242, tn_242⟩, ⟨_, _, tg_243, AP_243, ck_243, tn_243⟩, ⟨_, _, tg_244, AP_244, ck_244, tn_244⟩, ⟨_, _, tg_245, AP_245, ck_245, tn_245⟩, ⟨_, _, tg_246, AP_246, ck_246, tn_246⟩, ⟨_, _, tg_247, AP_247, ck_247, tn_247⟩, ⟨_, _, tg_248, AP_248, ck_248, tn_248⟩, ⟨_, _, tg_249, AP_249, ck_249, tn_249⟩, ⟨_, _, tg_250, AP_250, ck_250, tn_250⟩, ⟨_, _, tg_251, AP_251, ck_251, tn_251⟩, ⟨_, _, tg_252, AP_252, ck_252, tn_252⟩, trivial⟩
theorem AllE.mem : ∀ {l : List (Nat × Nat)}, AllE l → ∀ e ∈ l, ∃ fn af, TM.P.funcs[e.2]? = some fn ∧ AP e.1 = some af ∧ chkFn TM af fn = true ∧ (fn.name != "runtime.NumGoroutine" && !fn.body.isNone) = true := by
  intro l
  induction l with
  | nil => intro _ e he; cases he
  | cons x xs ih =>
    intro h e he
    rcases List.mem_cons.1 he with rfl | he
    · exact h.1
    · exact ih h.2 e he
theorem fmF_mem {f : Nat} {k : FuncId} (h : fmF f = some k) : (f, k) ∈ fmT := by
  unfold fmF at h
  simp only [Option.map_eq_some_iff] at h
  obtain ⟨p, hp, rfl⟩ := h
  have h1 := List.find?_some hp
  simp only [beq_iff_eq] at h1
  rw [← h1]
  exact List.mem_of_find?_eq_some hp
theorem fnsOk : FnsOk TM := by
  intro f k hk
  obtain ⟨fn, af, h1, h2, h3, h4⟩ := allE.mem _ (fmF_mem hk)
  simp only [Bool.and_eq_true, bne_iff_ne, Bool.not_eq_true'] at h4
  exact ⟨fn, h1, h4.1, h4.2⟩
theorem progP : ProgP TM AP := by
  intro f k af hk haf
  obtain ⟨fn, af', h1, h2, h3, h4⟩ := allE.mem _ (fmF_mem hk)
  rw [haf] at h2
  injection h2 with h2
  subst h2
  exact ⟨fn, h1, chkFn_ok h3⟩
theorem mixed : TM.P.follows .mixedOrders = true := by kernel_rfl
theorem mtOK : MtOK TM (mtOf mtL) := mtB_ok (by kernel_rfl)
theorem callOK : CallOK TM (run AP (mtOf mtL)) := sound_run fnsOk mtOK mixed progP
end Go.Ai
