/- The lowered program fits the program: function by function. Written by a program of this claim (mktie.py). -/
import Derived.Test.YtffliemhdjcflaaC6
import Derived.Test.YtffliemhdjcflaaB3
import Derived.Test.YtffliemhdjcflaaChecked
import Derived.KernelRfl
namespace Go.Ai
def fmT : List (Nat × Nat) := [(3, 6), (13, 16), (14, 17), (21, 24), (23, 26), (24, 27), (25, 28), (26, 29), (27, 30), (35, 38), (40, 43), (44, 47), (45, 48), (46, 49), (47, 50), (48, 51), (49, 52), (50, 53), (51, 54), (52, 55), (53, 56), (54, 57), (55, 58), (56, 59), (57, 60), (58, 61), (59, 62), (65, 68), (66, 69), (67, 70), (68, 71), (73, 76), (74, 77), (75, 78), (76, 79), (77, 80), (78, 81), (79, 82), (80, 83), (81, 84), (82, 85), (83, 86), (84, 87), (85, 88), (88, 91), (89, 92), (90, 93), (91, 94), (92, 95), (93, 96), (94, 97), (95, 98), (96, 99), (98, 101), (99, 102), (100, 103), (101, 104), (102, 105), (103, 106), (104, 107), (105, 108), (106, 109), (108, 111), (109, 112), (110, 113), (111, 114), (112, 115), (113, 116), (114, 117), (115, 118), (116, 119), (117, 120), (118, 121), (119, 122), (120, 123), (121, 124), (122, 125), (123, 126), (124, 127), (125, 128), (126, 129), (127, 130), (128, 131), (129, 132), (130, 133), (131, 134), (132, 135), (133, 136), (134, 137), (135, 138), (136, 139), (137, 140), (138, 141), (139, 142), (140, 143)]
def fmF : Nat → Option FuncId := fun n => (fmT.find? fun p => p.1 == n).map (·.2)
def nmT : List String := ["loop.example/gemel/impl.running", "loop.example/gemel/impl.here", "loop.example/gemel/impl.sender", "loop.example/gemel/impl.looked", "loop.example/gemel/impl.enter", "loop.example/gemel/impl.leave", "loop.example/gemel/impl.upTo", "loop.example/gemel/impl.say", "loop.example/gemel/impl.full"]
noncomputable def TM : SM := ⟨Go.Proofs.Try.prog, fmF, [222, 139], fun n => nmT[n]?⟩
theorem tg_3 : TM.P.funcs[6]? = some Go.Proofs.Try.f6 := by kernel_rfl
theorem tn_3 : (Go.Proofs.Try.f6.name != "runtime.NumGoroutine" && !Go.Proofs.Try.f6.body.isNone) = true := by kernel_rfl
theorem tg_13 : TM.P.funcs[16]? = some Go.Proofs.Try.f16 := by kernel_rfl
theorem tn_13 : (Go.Proofs.Try.f16.name != "runtime.NumGoroutine" && !Go.Proofs.Try.f16.body.isNone) = true := by kernel_rfl
theorem tg_14 : TM.P.funcs[17]? = some Go.Proofs.Try.f17 := by kernel_rfl
theorem tn_14 : (Go.Proofs.Try.f17.name != "runtime.NumGoroutine" && !Go.Proofs.Try.f17.body.isNone) = true := by kernel_rfl
theorem tg_21 : TM.P.funcs[24]? = some Go.Proofs.Try.f24 := by kernel_rfl
theorem tn_21 : (Go.Proofs.Try.f24.name != "runtime.NumGoroutine" && !Go.Proofs.Try.f24.body.isNone) = true := by kernel_rfl
theorem tg_23 : TM.P.funcs[26]? = some Go.Proofs.Try.f26 := by kernel_rfl
theorem tn_23 : (Go.Proofs.Try.f26.name != "runtime.NumGoroutine" && !Go.Proofs.Try.f26.body.isNone) = true := by kernel_rfl
theorem tg_24 : TM.P.funcs[27]? = some Go.Proofs.Try.f27 := by kernel_rfl
theorem tn_24 : (Go.Proofs.Try.f27.name != "runtime.NumGoroutine" && !Go.Proofs.Try.f27.body.isNone) = true := by kernel_rfl
theorem tg_25 : TM.P.funcs[28]? = some Go.Proofs.Try.f28 := by kernel_rfl
theorem tn_25 : (Go.Proofs.Try.f28.name != "runtime.NumGoroutine" && !Go.Proofs.Try.f28.body.isNone) = true := by kernel_rfl
theorem tg_26 : TM.P.funcs[29]? = some Go.Proofs.Try.f29 := by kernel_rfl
theorem tn_26 : (Go.Proofs.Try.f29.name != "runtime.NumGoroutine" && !Go.Proofs.Try.f29.body.isNone) = true := by kernel_rfl
theorem tg_27 : TM.P.funcs[30]? = some Go.Proofs.Try.f30 := by kernel_rfl
theorem tn_27 : (Go.Proofs.Try.f30.name != "runtime.NumGoroutine" && !Go.Proofs.Try.f30.body.isNone) = true := by kernel_rfl
theorem tg_35 : TM.P.funcs[38]? = some Go.Proofs.Try.f38 := by kernel_rfl
theorem tn_35 : (Go.Proofs.Try.f38.name != "runtime.NumGoroutine" && !Go.Proofs.Try.f38.body.isNone) = true := by kernel_rfl
theorem tg_40 : TM.P.funcs[43]? = some Go.Proofs.Try.f43 := by kernel_rfl
theorem tn_40 : (Go.Proofs.Try.f43.name != "runtime.NumGoroutine" && !Go.Proofs.Try.f43.body.isNone) = true := by kernel_rfl
theorem tg_44 : TM.P.funcs[47]? = some Go.Proofs.Try.f47 := by kernel_rfl
theorem tn_44 : (Go.Proofs.Try.f47.name != "runtime.NumGoroutine" && !Go.Proofs.Try.f47.body.isNone) = true := by kernel_rfl
theorem tg_45 : TM.P.funcs[48]? = some Go.Proofs.Try.f48 := by kernel_rfl
theorem tn_45 : (Go.Proofs.Try.f48.name != "runtime.NumGoroutine" && !Go.Proofs.Try.f48.body.isNone) = true := by kernel_rfl
theorem tg_46 : TM.P.funcs[49]? = some Go.Proofs.Try.f49 := by kernel_rfl
theorem tn_46 : (Go.Proofs.Try.f49.name != "runtime.NumGoroutine" && !Go.Proofs.Try.f49.body.isNone) = true := by kernel_rfl
theorem tg_47 : TM.P.funcs[50]? = some Go.Proofs.Try.f50 := by kernel_rfl
theorem tn_47 : (Go.Proofs.Try.f50.name != "runtime.NumGoroutine" && !Go.Proofs.Try.f50.body.isNone) = true := by kernel_rfl
theorem tg_48 : TM.P.funcs[51]? = some Go.Proofs.Try.f51 := by kernel_rfl
theorem tn_48 : (Go.Proofs.Try.f51.name != "runtime.NumGoroutine" && !Go.Proofs.Try.f51.body.isNone) = true := by kernel_rfl
theorem tg_49 : TM.P.funcs[52]? = some Go.Proofs.Try.f52 := by kernel_rfl
theorem tn_49 : (Go.Proofs.Try.f52.name != "runtime.NumGoroutine" && !Go.Proofs.Try.f52.body.isNone) = true := by kernel_rfl
theorem tg_50 : TM.P.funcs[53]? = some Go.Proofs.Try.f53 := by kernel_rfl
theorem tn_50 : (Go.Proofs.Try.f53.name != "runtime.NumGoroutine" && !Go.Proofs.Try.f53.body.isNone) = true := by kernel_rfl
theorem tg_51 : TM.P.funcs[54]? = some Go.Proofs.Try.f54 := by kernel_rfl
theorem tn_51 : (Go.Proofs.Try.f54.name != "runtime.NumGoroutine" && !Go.Proofs.Try.f54.body.isNone) = true := by kernel_rfl
theorem tg_52 : TM.P.funcs[55]? = some Go.Proofs.Try.f55 := by kernel_rfl
theorem tn_52 : (Go.Proofs.Try.f55.name != "runtime.NumGoroutine" && !Go.Proofs.Try.f55.body.isNone) = true := by kernel_rfl
theorem tg_53 : TM.P.funcs[56]? = some Go.Proofs.Try.f56 := by kernel_rfl
theorem tn_53 : (Go.Proofs.Try.f56.name != "runtime.NumGoroutine" && !Go.Proofs.Try.f56.body.isNone) = true := by kernel_rfl
theorem tg_54 : TM.P.funcs[57]? = some Go.Proofs.Try.f57 := by kernel_rfl
theorem tn_54 : (Go.Proofs.Try.f57.name != "runtime.NumGoroutine" && !Go.Proofs.Try.f57.body.isNone) = true := by kernel_rfl
theorem tg_55 : TM.P.funcs[58]? = some Go.Proofs.Try.f58 := by kernel_rfl
theorem tn_55 : (Go.Proofs.Try.f58.name != "runtime.NumGoroutine" && !Go.Proofs.Try.f58.body.isNone) = true := by kernel_rfl
theorem tg_56 : TM.P.funcs[59]? = some Go.Proofs.Try.f59 := by kernel_rfl
theorem tn_56 : (Go.Proofs.Try.f59.name != "runtime.NumGoroutine" && !Go.Proofs.Try.f59.body.isNone) = true := by kernel_rfl
theorem tg_57 : TM.P.funcs[60]? = some Go.Proofs.Try.f60 := by kernel_rfl
theorem tn_57 : (Go.Proofs.Try.f60.name != "runtime.NumGoroutine" && !Go.Proofs.Try.f60.body.isNone) = true := by kernel_rfl
theorem tg_58 : TM.P.funcs[61]? = some Go.Proofs.Try.f61 := by kernel_rfl
theorem tn_58 : (Go.Proofs.Try.f61.name != "runtime.NumGoroutine" && !Go.Proofs.Try.f61.body.isNone) = true := by kernel_rfl
theorem tg_59 : TM.P.funcs[62]? = some Go.Proofs.Try.f62 := by kernel_rfl
theorem tn_59 : (Go.Proofs.Try.f62.name != "runtime.NumGoroutine" && !Go.Proofs.Try.f62.body.isNone) = true := by kernel_rfl
theorem tg_65 : TM.P.funcs[68]? = some Go.Proofs.Try.f68 := by kernel_rfl
theorem tn_65 : (Go.Proofs.Try.f68.name != "runtime.NumGoroutine" && !Go.Proofs.Try.f68.body.isNone) = true := by kernel_rfl
theorem tg_66 : TM.P.funcs[69]? = some Go.Proofs.Try.f69 := by kernel_rfl
theorem tn_66 : (Go.Proofs.Try.f69.name != "runtime.NumGoroutine" && !Go.Proofs.Try.f69.body.isNone) = true := by kernel_rfl
theorem tg_67 : TM.P.funcs[70]? = some Go.Proofs.Try.f70 := by kernel_rfl
theorem tn_67 : (Go.Proofs.Try.f70.name != "runtime.NumGoroutine" && !Go.Proofs.Try.f70.body.isNone) = true := by kernel_rfl
theorem tg_68 : TM.P.funcs[71]? = some Go.Proofs.Try.f71 := by kernel_rfl
theorem tn_68 : (Go.Proofs.Try.f71.name != "runtime.NumGoroutine" && !Go.Proofs.Try.f71.body.isNone) = true := by kernel_rfl
theorem tg_73 : TM.P.funcs[76]? = some Go.Proofs.Try.f76 := by kernel_rfl
theorem tn_73 : (Go.Proofs.Try.f76.name != "runtime.NumGoroutine" && !Go.Proofs.Try.f76.body.isNone) = true := by kernel_rfl
theorem tg_74 : TM.P.funcs[77]? = some Go.Proofs.Try.f77 := by kernel_rfl
theorem tn_74 : (Go.Proofs.Try.f77.name != "runtime.NumGoroutine" && !Go.Proofs.Try.f77.body.isNone) = true := by kernel_rfl
theorem tg_75 : TM.P.funcs[78]? = some Go.Proofs.Try.f78 := by kernel_rfl
theorem tn_75 : (Go.Proofs.Try.f78.name != "runtime.NumGoroutine" && !Go.Proofs.Try.f78.body.isNone) = true := by kernel_rfl
theorem tg_76 : TM.P.funcs[79]? = some Go.Proofs.Try.f79 := by kernel_rfl
theorem tn_76 : (Go.Proofs.Try.f79.name != "runtime.NumGoroutine" && !Go.Proofs.Try.f79.body.isNone) = true := by kernel_rfl
theorem tg_77 : TM.P.funcs[80]? = some Go.Proofs.Try.f80 := by kernel_rfl
theorem tn_77 : (Go.Proofs.Try.f80.name != "runtime.NumGoroutine" && !Go.Proofs.Try.f80.body.isNone) = true := by kernel_rfl
theorem tg_78 : TM.P.funcs[81]? = some Go.Proofs.Try.f81 := by kernel_rfl
theorem tn_78 : (Go.Proofs.Try.f81.name != "runtime.NumGoroutine" && !Go.Proofs.Try.f81.body.isNone) = true := by kernel_rfl
theorem tg_79 : TM.P.funcs[82]? = some Go.Proofs.Try.f82 := by kernel_rfl
theorem tn_79 : (Go.Proofs.Try.f82.name != "runtime.NumGoroutine" && !Go.Proofs.Try.f82.body.isNone) = true := by kernel_rfl
theorem tg_80 : TM.P.funcs[83]? = some Go.Proofs.Try.f83 := by kernel_rfl
theorem tn_80 : (Go.Proofs.Try.f83.name != "runtime.NumGoroutine" && !Go.Proofs.Try.f83.body.isNone) = true := by kernel_rfl
theorem tg_81 : TM.P.funcs[84]? = some Go.Proofs.Try.f84 := by kernel_rfl
theorem tn_81 : (Go.Proofs.Try.f84.name != "runtime.NumGoroutine" && !Go.Proofs.Try.f84.body.isNone) = true := by kernel_rfl
theorem tg_82 : TM.P.funcs[85]? = some Go.Proofs.Try.f85 := by kernel_rfl
theorem tn_82 : (Go.Proofs.Try.f85.name != "runtime.NumGoroutine" && !Go.Proofs.Try.f85.body.isNone) = true := by kernel_rfl
theorem tg_83 : TM.P.funcs[86]? = some Go.Proofs.Try.f86 := by kernel_rfl
theorem tn_83 : (Go.Proofs.Try.f86.name != "runtime.NumGoroutine" && !Go.Proofs.Try.f86.body.isNone) = true := by kernel_rfl
theorem tg_84 : TM.P.funcs[87]? = some Go.Proofs.Try.f87 := by kernel_rfl
theorem tn_84 : (Go.Proofs.Try.f87.name != "runtime.NumGoroutine" && !Go.Proofs.Try.f87.body.isNone) = true := by kernel_rfl
theorem tg_85 : TM.P.funcs[88]? = some Go.Proofs.Try.f88 := by kernel_rfl
theorem tn_85 : (Go.Proofs.Try.f88.name != "runtime.NumGoroutine" && !Go.Proofs.Try.f88.body.isNone) = true := by kernel_rfl
theorem tg_88 : TM.P.funcs[91]? = some Go.Proofs.Try.f91 := by kernel_rfl
theorem tn_88 : (Go.Proofs.Try.f91.name != "runtime.NumGoroutine" && !Go.Proofs.Try.f91.body.isNone) = true := by kernel_rfl
theorem tg_89 : TM.P.funcs[92]? = some Go.Proofs.Try.f92 := by kernel_rfl
theorem tn_89 : (Go.Proofs.Try.f92.name != "runtime.NumGoroutine" && !Go.Proofs.Try.f92.body.isNone) = true := by kernel_rfl
theorem tg_90 : TM.P.funcs[93]? = some Go.Proofs.Try.f93 := by kernel_rfl
theorem tn_90 : (Go.Proofs.Try.f93.name != "runtime.NumGoroutine" && !Go.Proofs.Try.f93.body.isNone) = true := by kernel_rfl
theorem tg_91 : TM.P.funcs[94]? = some Go.Proofs.Try.f94 := by kernel_rfl
theorem tn_91 : (Go.Proofs.Try.f94.name != "runtime.NumGoroutine" && !Go.Proofs.Try.f94.body.isNone) = true := by kernel_rfl
theorem tg_92 : TM.P.funcs[95]? = some Go.Proofs.Try.f95 := by kernel_rfl
theorem tn_92 : (Go.Proofs.Try.f95.name != "runtime.NumGoroutine" && !Go.Proofs.Try.f95.body.isNone) = true := by kernel_rfl
theorem tg_93 : TM.P.funcs[96]? = some Go.Proofs.Try.f96 := by kernel_rfl
theorem tn_93 : (Go.Proofs.Try.f96.name != "runtime.NumGoroutine" && !Go.Proofs.Try.f96.body.isNone) = true := by kernel_rfl
theorem tg_94 : TM.P.funcs[97]? = some Go.Proofs.Try.f97 := by kernel_rfl
theorem tn_94 : (Go.Proofs.Try.f97.name != "runtime.NumGoroutine" && !Go.Proofs.Try.f97.body.isNone) = true := by kernel_rfl
theorem tg_95 : TM.P.funcs[98]? = some Go.Proofs.Try.f98 := by kernel_rfl
theorem tn_95 : (Go.Proofs.Try.f98.name != "runtime.NumGoroutine" && !Go.Proofs.Try.f98.body.isNone) = true := by kernel_rfl
theorem tg_96 : TM.P.funcs[99]? = some Go.Proofs.Try.f99 := by kernel_rfl
theorem tn_96 : (Go.Proofs.Try.f99.name != "runtime.NumGoroutine" && !Go.Proofs.Try.f99.body.isNone) = true := by kernel_rfl
theorem tg_98 : TM.P.funcs[101]? = some Go.Proofs.Try.f101 := by kernel_rfl
theorem tn_98 : (Go.Proofs.Try.f101.name != "runtime.NumGoroutine" && !Go.Proofs.Try.f101.body.isNone) = true := by kernel_rfl
theorem tg_99 : TM.P.funcs[102]? = some Go.Proofs.Try.f102 := by kernel_rfl
theorem tn_99 : (Go.Proofs.Try.f102.name != "runtime.NumGoroutine" && !Go.Proofs.Try.f102.body.isNone) = true := by kernel_rfl
theorem tg_100 : TM.P.funcs[103]? = some Go.Proofs.Try.f103 := by kernel_rfl
theorem tn_100 : (Go.Proofs.Try.f103.name != "runtime.NumGoroutine" && !Go.Proofs.Try.f103.body.isNone) = true := by kernel_rfl
theorem tg_101 : TM.P.funcs[104]? = some Go.Proofs.Try.f104 := by kernel_rfl
theorem tn_101 : (Go.Proofs.Try.f104.name != "runtime.NumGoroutine" && !Go.Proofs.Try.f104.body.isNone) = true := by kernel_rfl
theorem tg_102 : TM.P.funcs[105]? = some Go.Proofs.Try.f105 := by kernel_rfl
theorem tn_102 : (Go.Proofs.Try.f105.name != "runtime.NumGoroutine" && !Go.Proofs.Try.f105.body.isNone) = true := by kernel_rfl
theorem tg_103 : TM.P.funcs[106]? = some Go.Proofs.Try.f106 := by kernel_rfl
theorem tn_103 : (Go.Proofs.Try.f106.name != "runtime.NumGoroutine" && !Go.Proofs.Try.f106.body.isNone) = true := by kernel_rfl
theorem tg_104 : TM.P.funcs[107]? = some Go.Proofs.Try.f107 := by kernel_rfl
theorem tn_104 : (Go.Proofs.Try.f107.name != "runtime.NumGoroutine" && !Go.Proofs.Try.f107.body.isNone) = true := by kernel_rfl
theorem tg_105 : TM.P.funcs[108]? = some Go.Proofs.Try.f108 := by kernel_rfl
theorem tn_105 : (Go.Proofs.Try.f108.name != "runtime.NumGoroutine" && !Go.Proofs.Try.f108.body.isNone) = true := by kernel_rfl
theorem tg_106 : TM.P.funcs[109]? = some Go.Proofs.Try.f109 := by kernel_rfl
theorem tn_106 : (Go.Proofs.Try.f109.name != "runtime.NumGoroutine" && !Go.Proofs.Try.f109.body.isNone) = true := by kernel_rfl
theorem tg_108 : TM.P.funcs[111]? = some Go.Proofs.Try.f111 := by kernel_rfl
theorem tn_108 : (Go.Proofs.Try.f111.name != "runtime.NumGoroutine" && !Go.Proofs.Try.f111.body.isNone) = true := by kernel_rfl
theorem tg_109 : TM.P.funcs[112]? = some Go.Proofs.Try.f112 := by kernel_rfl
theorem tn_109 : (Go.Proofs.Try.f112.name != "runtime.NumGoroutine" && !Go.Proofs.Try.f112.body.isNone) = true := by kernel_rfl
theorem tg_110 : TM.P.funcs[113]? = some Go.Proofs.Try.f113 := by kernel_rfl
theorem tn_110 : (Go.Proofs.Try.f113.name != "runtime.NumGoroutine" && !Go.Proofs.Try.f113.body.isNone) = true := by kernel_rfl
theorem tg_111 : TM.P.funcs[114]? = some Go.Proofs.Try.f114 := by kernel_rfl
theorem tn_111 : (Go.Proofs.Try.f114.name != "runtime.NumGoroutine" && !Go.Proofs.Try.f114.body.isNone) = true := by kernel_rfl
theorem tg_112 : TM.P.funcs[115]? = some Go.Proofs.Try.f115 := by kernel_rfl
theorem tn_112 : (Go.Proofs.Try.f115.name != "runtime.NumGoroutine" && !Go.Proofs.Try.f115.body.isNone) = true := by kernel_rfl
theorem tg_113 : TM.P.funcs[116]? = some Go.Proofs.Try.f116 := by kernel_rfl
theorem tn_113 : (Go.Proofs.Try.f116.name != "runtime.NumGoroutine" && !Go.Proofs.Try.f116.body.isNone) = true := by kernel_rfl
theorem tg_114 : TM.P.funcs[117]? = some Go.Proofs.Try.f117 := by kernel_rfl
theorem tn_114 : (Go.Proofs.Try.f117.name != "runtime.NumGoroutine" && !Go.Proofs.Try.f117.body.isNone) = true := by kernel_rfl
theorem tg_115 : TM.P.funcs[118]? = some Go.Proofs.Try.f118 := by kernel_rfl
theorem tn_115 : (Go.Proofs.Try.f118.name != "runtime.NumGoroutine" && !Go.Proofs.Try.f118.body.isNone) = true := by kernel_rfl
theorem tg_116 : TM.P.funcs[119]? = some Go.Proofs.Try.f119 := by kernel_rfl
theorem tn_116 : (Go.Proofs.Try.f119.name != "runtime.NumGoroutine" && !Go.Proofs.Try.f119.body.isNone) = true := by kernel_rfl
theorem tg_117 : TM.P.funcs[120]? = some Go.Proofs.Try.f120 := by kernel_rfl
theorem tn_117 : (Go.Proofs.Try.f120.name != "runtime.NumGoroutine" && !Go.Proofs.Try.f120.body.isNone) = true := by kernel_rfl
theorem tg_118 : TM.P.funcs[121]? = some Go.Proofs.Try.f121 := by kernel_rfl
theorem tn_118 : (Go.Proofs.Try.f121.name != "runtime.NumGoroutine" && !Go.Proofs.Try.f121.body.isNone) = true := by kernel_rfl
theorem tg_119 : TM.P.funcs[122]? = some Go.Proofs.Try.f122 := by kernel_rfl
theorem tn_119 : (Go.Proofs.Try.f122.name != "runtime.NumGoroutine" && !Go.Proofs.Try.f122.body.isNone) = true := by kernel_rfl
theorem tg_120 : TM.P.funcs[123]? = some Go.Proofs.Try.f123 := by kernel_rfl
theorem tn_120 : (Go.Proofs.Try.f123.name != "runtime.NumGoroutine" && !Go.Proofs.Try.f123.body.isNone) = true := by kernel_rfl
theorem tg_121 : TM.P.funcs[124]? = some Go.Proofs.Try.f124 := by kernel_rfl
theorem tn_121 : (Go.Proofs.Try.f124.name != "runtime.NumGoroutine" && !Go.Proofs.Try.f124.body.isNone) = true := by kernel_rfl
theorem tg_122 : TM.P.funcs[125]? = some Go.Proofs.Try.f125 := by kernel_rfl
theorem tn_122 : (Go.Proofs.Try.f125.name != "runtime.NumGoroutine" && !Go.Proofs.Try.f125.body.isNone) = true := by kernel_rfl
theorem tg_123 : TM.P.funcs[126]? = some Go.Proofs.Try.f126 := by kernel_rfl
theorem tn_123 : (Go.Proofs.Try.f126.name != "runtime.NumGoroutine" && !Go.Proofs.Try.f126.body.isNone) = true := by kernel_rfl
theorem tg_124 : TM.P.funcs[127]? = some Go.Proofs.Try.f127 := by kernel_rfl
theorem tn_124 : (Go.Proofs.Try.f127.name != "runtime.NumGoroutine" && !Go.Proofs.Try.f127.body.isNone) = true := by kernel_rfl
theorem tg_125 : TM.P.funcs[128]? = some Go.Proofs.Try.f128 := by kernel_rfl
theorem tn_125 : (Go.Proofs.Try.f128.name != "runtime.NumGoroutine" && !Go.Proofs.Try.f128.body.isNone) = true := by kernel_rfl
theorem tg_126 : TM.P.funcs[129]? = some Go.Proofs.Try.f129 := by kernel_rfl
theorem tn_126 : (Go.Proofs.Try.f129.name != "runtime.NumGoroutine" && !Go.Proofs.Try.f129.body.isNone) = true := by kernel_rfl
theorem tg_127 : TM.P.funcs[130]? = some Go.Proofs.Try.f130 := by kernel_rfl
theorem tn_127 : (Go.Proofs.Try.f130.name != "runtime.NumGoroutine" && !Go.Proofs.Try.f130.body.isNone) = true := by kernel_rfl
theorem tg_128 : TM.P.funcs[131]? = some Go.Proofs.Try.f131 := by kernel_rfl
theorem tn_128 : (Go.Proofs.Try.f131.name != "runtime.NumGoroutine" && !Go.Proofs.Try.f131.body.isNone) = true := by kernel_rfl
theorem tg_129 : TM.P.funcs[132]? = some Go.Proofs.Try.f132 := by kernel_rfl
theorem tn_129 : (Go.Proofs.Try.f132.name != "runtime.NumGoroutine" && !Go.Proofs.Try.f132.body.isNone) = true := by kernel_rfl
theorem tg_130 : TM.P.funcs[133]? = some Go.Proofs.Try.f133 := by kernel_rfl
theorem tn_130 : (Go.Proofs.Try.f133.name != "runtime.NumGoroutine" && !Go.Proofs.Try.f133.body.isNone) = true := by kernel_rfl
theorem tg_131 : TM.P.funcs[134]? = some Go.Proofs.Try.f134 := by kernel_rfl
theorem tn_131 : (Go.Proofs.Try.f134.name != "runtime.NumGoroutine" && !Go.Proofs.Try.f134.body.isNone) = true := by kernel_rfl
theorem tg_132 : TM.P.funcs[135]? = some Go.Proofs.Try.f135 := by kernel_rfl
theorem tn_132 : (Go.Proofs.Try.f135.name != "runtime.NumGoroutine" && !Go.Proofs.Try.f135.body.isNone) = true := by kernel_rfl
theorem tg_133 : TM.P.funcs[136]? = some Go.Proofs.Try.f136 := by kernel_rfl
theorem tn_133 : (Go.Proofs.Try.f136.name != "runtime.NumGoroutine" && !Go.Proofs.Try.f136.body.isNone) = true := by kernel_rfl
theorem tg_134 : TM.P.funcs[137]? = some Go.Proofs.Try.f137 := by kernel_rfl
theorem tn_134 : (Go.Proofs.Try.f137.name != "runtime.NumGoroutine" && !Go.Proofs.Try.f137.body.isNone) = true := by kernel_rfl
theorem tg_135 : TM.P.funcs[138]? = some Go.Proofs.Try.f138 := by kernel_rfl
theorem tn_135 : (Go.Proofs.Try.f138.name != "runtime.NumGoroutine" && !Go.Proofs.Try.f138.body.isNone) = true := by kernel_rfl
theorem tg_136 : TM.P.funcs[139]? = some Go.Proofs.Try.f139 := by kernel_rfl
theorem tn_136 : (Go.Proofs.Try.f139.name != "runtime.NumGoroutine" && !Go.Proofs.Try.f139.body.isNone) = true := by kernel_rfl
theorem tg_137 : TM.P.funcs[140]? = some Go.Proofs.Try.f140 := by kernel_rfl
theorem tn_137 : (Go.Proofs.Try.f140.name != "runtime.NumGoroutine" && !Go.Proofs.Try.f140.body.isNone) = true := by kernel_rfl
theorem tg_138 : TM.P.funcs[141]? = some Go.Proofs.Try.f141 := by kernel_rfl
theorem tn_138 : (Go.Proofs.Try.f141.name != "runtime.NumGoroutine" && !Go.Proofs.Try.f141.body.isNone) = true := by kernel_rfl
theorem tg_139 : TM.P.funcs[142]? = some Go.Proofs.Try.f142 := by kernel_rfl
theorem tn_139 : (Go.Proofs.Try.f142.name != "runtime.NumGoroutine" && !Go.Proofs.Try.f142.body.isNone) = true := by kernel_rfl
theorem tg_140 : TM.P.funcs[143]? = some Go.Proofs.Try.f143 := by kernel_rfl
theorem tn_140 : (Go.Proofs.Try.f143.name != "runtime.NumGoroutine" && !Go.Proofs.Try.f143.body.isNone) = true := by kernel_rfl
theorem ck_3 : chkFn TM c_3 Go.Proofs.Try.f6 = true := by kernel_rfl
theorem ck_13 : chkFn TM c_13 Go.Proofs.Try.f16 = true := by kernel_rfl
theorem ck_14 : chkFn TM c_14 Go.Proofs.Try.f17 = true := by kernel_rfl
theorem ck_21 : chkFn TM c_21 Go.Proofs.Try.f24 = true := by kernel_rfl
theorem ck_23 : chkFn TM c_23 Go.Proofs.Try.f26 = true := by kernel_rfl
theorem ck_24 : chkFn TM c_24 Go.Proofs.Try.f27 = true := by kernel_rfl
theorem ck_25 : chkFn TM c_25 Go.Proofs.Try.f28 = true := by kernel_rfl
theorem ck_26 : chkFn TM c_26 Go.Proofs.Try.f29 = true := by kernel_rfl
theorem ck_27 : chkFn TM c_27 Go.Proofs.Try.f30 = true := by kernel_rfl
theorem ck_35 : chkFn TM c_35 Go.Proofs.Try.f38 = true := by kernel_rfl
theorem ck_40 : chkFn TM c_40 Go.Proofs.Try.f43 = true := by kernel_rfl
theorem ck_44 : chkFn TM c_44 Go.Proofs.Try.f47 = true := by kernel_rfl
theorem ck_45 : chkFn TM c_45 Go.Proofs.Try.f48 = true := by kernel_rfl
theorem ck_46 : chkFn TM c_46 Go.Proofs.Try.f49 = true := by kernel_rfl
theorem ck_47 : chkFn TM c_47 Go.Proofs.Try.f50 = true := by kernel_rfl
theorem ck_48 : chkFn TM c_48 Go.Proofs.Try.f51 = true := by kernel_rfl
theorem ck_49 : chkFn TM c_49 Go.Proofs.Try.f52 = true := by kernel_rfl
theorem ck_50 : chkFn TM c_50 Go.Proofs.Try.f53 = true := by kernel_rfl
theorem ck_51 : chkFn TM c_51 Go.Proofs.Try.f54 = true := by kernel_rfl
theorem ck_52 : chkFn TM c_52 Go.Proofs.Try.f55 = true := by kernel_rfl
theorem ck_53 : chkFn TM c_53 Go.Proofs.Try.f56 = true := by kernel_rfl
theorem ck_54 : chkFn TM c_54 Go.Proofs.Try.f57 = true := by kernel_rfl
theorem ck_55 : chkFn TM c_55 Go.Proofs.Try.f58 = true := by kernel_rfl
theorem ck_56 : chkFn TM c_56 Go.Proofs.Try.f59 = true := by kernel_rfl
theorem ck_57 : chkFn TM c_57 Go.Proofs.Try.f60 = true := by kernel_rfl
theorem ck_58 : chkFn TM c_58 Go.Proofs.Try.f61 = true := by kernel_rfl
theorem ck_59 : chkFn TM c_59 Go.Proofs.Try.f62 = true := by kernel_rfl
theorem ck_65 : chkFn TM c_65 Go.Proofs.Try.f68 = true := by kernel_rfl
theorem ck_66 : chkFn TM c_66 Go.Proofs.Try.f69 = true := by kernel_rfl
theorem ck_67 : chkFn TM c_67 Go.Proofs.Try.f70 = true := by kernel_rfl
theorem ck_68 : chkFn TM c_68 Go.Proofs.Try.f71 = true := by kernel_rfl
theorem ck_73 : chkFn TM c_73 Go.Proofs.Try.f76 = true := by kernel_rfl
theorem ck_74 : chkFn TM c_74 Go.Proofs.Try.f77 = true := by kernel_rfl
theorem ck_75 : chkFn TM c_75 Go.Proofs.Try.f78 = true := by kernel_rfl
theorem ck_76 : chkFn TM c_76 Go.Proofs.Try.f79 = true := by kernel_rfl
theorem ck_77 : chkFn TM c_77 Go.Proofs.Try.f80 = true := by kernel_rfl
theorem ck_78 : chkFn TM c_78 Go.Proofs.Try.f81 = true := by kernel_rfl
theorem ck_79 : chkFn TM c_79 Go.Proofs.Try.f82 = true := by kernel_rfl
theorem ck_80 : chkFn TM c_80 Go.Proofs.Try.f83 = true := by kernel_rfl
theorem ck_81 : chkFn TM c_81 Go.Proofs.Try.f84 = true := by kernel_rfl
theorem ck_82 : chkFn TM c_82 Go.Proofs.Try.f85 = true := by kernel_rfl
theorem ck_83 : chkFn TM c_83 Go.Proofs.Try.f86 = true := by kernel_rfl
theorem ck_84 : chkFn TM c_84 Go.Proofs.Try.f87 = true := by kernel_rfl
theorem ck_85 : chkFn TM c_85 Go.Proofs.Try.f88 = true := by kernel_rfl
theorem ck_88 : chkFn TM c_88 Go.Proofs.Try.f91 = true := by kernel_rfl
theorem ck_89 : chkFn TM c_89 Go.Proofs.Try.f92 = true := by kernel_rfl
theorem ck_90 : chkFn TM c_90 Go.Proofs.Try.f93 = true := by kernel_rfl
theorem ck_91 : chkFn TM c_91 Go.Proofs.Try.f94 = true := by kernel_rfl
theorem ck_92 : chkFn TM c_92 Go.Proofs.Try.f95 = true := by kernel_rfl
theorem ck_93 : chkFn TM c_93 Go.Proofs.Try.f96 = true := by kernel_rfl
theorem ck_94 : chkFn TM c_94 Go.Proofs.Try.f97 = true := by kernel_rfl
theorem ck_95 : chkFn TM c_95 Go.Proofs.Try.f98 = true := by kernel_rfl
theorem ck_96 : chkFn TM c_96 Go.Proofs.Try.f99 = true := by kernel_rfl
theorem ck_98 : chkFn TM c_98 Go.Proofs.Try.f101 = true := by kernel_rfl
theorem ck_99 : chkFn TM c_99 Go.Proofs.Try.f102 = true := by kernel_rfl
theorem ck_100 : chkFn TM c_100 Go.Proofs.Try.f103 = true := by kernel_rfl
theorem ck_101 : chkFn TM c_101 Go.Proofs.Try.f104 = true := by kernel_rfl
theorem ck_102 : chkFn TM c_102 Go.Proofs.Try.f105 = true := by kernel_rfl
theorem ck_103 : chkFn TM c_103 Go.Proofs.Try.f106 = true := by kernel_rfl
theorem ck_104 : chkFn TM c_104 Go.Proofs.Try.f107 = true := by kernel_rfl
theorem ck_105 : chkFn TM c_105 Go.Proofs.Try.f108 = true := by kernel_rfl
theorem ck_106 : chkFn TM c_106 Go.Proofs.Try.f109 = true := by kernel_rfl
theorem ck_108 : chkFn TM c_108 Go.Proofs.Try.f111 = true := by kernel_rfl
theorem ck_109 : chkFn TM c_109 Go.Proofs.Try.f112 = true := by kernel_rfl
theorem ck_110 : chkFn TM c_110 Go.Proofs.Try.f113 = true := by kernel_rfl
theorem ck_111 : chkFn TM c_111 Go.Proofs.Try.f114 = true := by kernel_rfl
theorem ck_112 : chkFn TM c_112 Go.Proofs.Try.f115 = true := by kernel_rfl
theorem ck_113 : chkFn TM c_113 Go.Proofs.Try.f116 = true := by kernel_rfl
theorem ck_114 : chkFn TM c_114 Go.Proofs.Try.f117 = true := by kernel_rfl
theorem ck_115 : chkFn TM c_115 Go.Proofs.Try.f118 = true := by kernel_rfl
theorem ck_116 : chkFn TM c_116 Go.Proofs.Try.f119 = true := by kernel_rfl
theorem ck_117 : chkFn TM c_117 Go.Proofs.Try.f120 = true := by kernel_rfl
theorem ck_118 : chkFn TM c_118 Go.Proofs.Try.f121 = true := by kernel_rfl
theorem ck_119 : chkFn TM c_119 Go.Proofs.Try.f122 = true := by kernel_rfl
theorem ck_120 : chkFn TM c_120 Go.Proofs.Try.f123 = true := by kernel_rfl
theorem ck_121 : chkFn TM c_121 Go.Proofs.Try.f124 = true := by kernel_rfl
theorem ck_122 : chkFn TM c_122 Go.Proofs.Try.f125 = true := by kernel_rfl
theorem ck_123 : chkFn TM c_123 Go.Proofs.Try.f126 = true := by kernel_rfl
theorem ck_124 : chkFn TM c_124 Go.Proofs.Try.f127 = true := by kernel_rfl
theorem ck_125 : chkFn TM c_125 Go.Proofs.Try.f128 = true := by kernel_rfl
theorem ck_126 : chkFn TM c_126 Go.Proofs.Try.f129 = true := by kernel_rfl
theorem ck_127 : chkFn TM c_127 Go.Proofs.Try.f130 = true := by kernel_rfl
theorem ck_128 : chkFn TM c_128 Go.Proofs.Try.f131 = true := by kernel_rfl
theorem ck_129 : chkFn TM c_129 Go.Proofs.Try.f132 = true := by kernel_rfl
theorem ck_130 : chkFn TM c_130 Go.Proofs.Try.f133 = true := by kernel_rfl
theorem ck_131 : chkFn TM c_131 Go.Proofs.Try.f134 = true := by kernel_rfl
theorem ck_132 : chkFn TM c_132 Go.Proofs.Try.f135 = true := by kernel_rfl
theorem ck_133 : chkFn TM c_133 Go.Proofs.Try.f136 = true := by kernel_rfl
theorem ck_134 : chkFn TM c_134 Go.Proofs.Try.f137 = true := by kernel_rfl
theorem ck_135 : chkFn TM c_135 Go.Proofs.Try.f138 = true := by kernel_rfl
theorem ck_136 : chkFn TM c_136 Go.Proofs.Try.f139 = true := by kernel_rfl
theorem ck_137 : chkFn TM c_137 Go.Proofs.Try.f140 = true := by kernel_rfl
theorem ck_138 : chkFn TM c_138 Go.Proofs.Try.f141 = true := by kernel_rfl
theorem ck_139 : chkFn TM c_139 Go.Proofs.Try.f142 = true := by kernel_rfl
theorem ck_140 : chkFn TM c_140 Go.Proofs.Try.f143 = true := by kernel_rfl
def AllE : List (Nat × Nat) → Prop
  | [] => True
  | e :: r => (∃ fn af, TM.P.funcs[e.2]? = some fn ∧ AP e.1 = some af ∧ chkFn TM af fn = true ∧ (fn.name != "runtime.NumGoroutine" && !fn.body.isNone) = true) ∧ AllE r
theorem allE : AllE fmT := ⟨⟨_, _, tg_3, AP_3, ck_3, tn_3⟩, ⟨_, _, tg_13, AP_13, ck_13, tn_13⟩, ⟨_, _, tg_14, AP_14, ck_14, tn_14⟩, ⟨_, _, tg_21, AP_21, ck_21, tn_21⟩, ⟨_, _, tg_23, AP_23, ck_23, tn_23⟩, ⟨_, _, tg_24, AP_24, ck_24, tn_24⟩, ⟨_, _, tg_25, AP_25, ck_25, tn_25⟩, ⟨_, _, tg_26, AP_26, ck_26, tn_26⟩, ⟨_, _, tg_27, AP_27, ck_27, tn_27⟩, ⟨_, _, tg_35, AP_35, ck_35, tn_35⟩, ⟨_, _, tg_40, AP_40, ck_40, tn_40⟩, ⟨_, _, tg_44, AP_44, ck_44, tn_44⟩, ⟨_, _, tg_45, AP_45, ck_45, tn_45⟩, ⟨_, _, tg_46, AP_46, ck_46, tn_46⟩, ⟨_, _, tg_47, AP_47, ck_47, tn_47⟩, ⟨_, _, tg_48, AP_48, ck_48, tn_48⟩, ⟨_, _, tg_49, AP_49, ck_49, tn_49⟩, ⟨_, _, tg_50, AP_50, ck_50, tn_50⟩, ⟨_, _, tg_51, AP_51, ck_51, tn_51⟩, ⟨_, _, tg_52, AP_52, ck_52, tn_52⟩, ⟨_, _, tg_53, AP_53, ck_53, tn_53⟩, ⟨_, _, tg_54, AP_54, ck_54, tn_54⟩, ⟨_, _, tg_55, AP_55, ck_55, tn_55⟩, ⟨_, _, tg_56, AP_56, ck_56, tn_56⟩, ⟨_, _, tg_57, AP_57, ck_57, tn_57⟩, ⟨_, _, tg_58, AP_58, ck_58, tn_58⟩, ⟨_, _, tg_59, AP_59, ck_59, tn_59⟩, ⟨_, _, tg_65, AP_65, ck_65, tn_65⟩, ⟨_, _, tg_66, AP_66, ck_66, tn_66⟩, ⟨_, _, tg_67, AP_67, ck_67, tn_67⟩, ⟨_, _, tg_68, AP_68, ck_68, tn_68⟩, ⟨_, _, tg_73, AP_73, ck_73, tn_73⟩, ⟨_, _, tg_74, AP_74, ck_74, tn_74⟩, ⟨_, _, tg_75, AP_75, ck_75, tn_75⟩, ⟨_, _, tg_76, AP_76, ck_76, tn_76⟩, ⟨_, _, tg_77, AP_77, ck_77, tn_77⟩, ⟨_, _, tg_78, AP_78, ck_78, tn_78⟩, ⟨_, _, tg_79, AP_79, ck_79, tn_79⟩, ⟨_, _, tg_80, AP_80, ck_80, tn_80⟩, ⟨_, _, tg_81, AP_81, ck_81, tn_81⟩, ⟨_, _, tg_82, AP_82, ck_82, tn_82⟩, ⟨_, _, tg_83, AP_83, ck_83, tn_83⟩, ⟨_, _, tg_84, AP_84, ck_84, tn_84⟩, ⟨_, _, tg_85, AP_85, ck_85, tn_85⟩, ⟨_, _, tg_88, AP_88, ck_88, tn_88⟩, ⟨_, _, tg_89, AP_89, ck_89, tn_89⟩, ⟨_, _, tg_90, AP_90, ck_90, tn_90⟩, ⟨_, _, tg_91, AP_91, ck_91, tn_91⟩, ⟨_, _, tg_92, AP_92, ck_92, tn_92⟩, ⟨_, _, tg_93, AP_93, ck_93, tn_93⟩, ⟨_, _, tg_94, AP_94, ck_94, tn_94⟩, ⟨_, _, tg_95, AP_95, ck_95, tn_95⟩, ⟨_, _, tg_96, AP_96, ck_96, tn_96⟩, ⟨_, _, tg_98, AP_98, ck_98, tn_98⟩, ⟨_, _, tg_99, AP_99, ck_99, tn_99⟩, ⟨_, _, tg_100, AP_100, ck_100, tn_100⟩, ⟨_, _, tg_101, AP_101, ck_101, tn_101⟩, ⟨_, _, tg_102, AP_102, ck_102, tn_102⟩, ⟨_, _, tg_103, AP_103, ck_103, tn_103⟩, ⟨_, _, tg_104, AP_104, ck_104, tn_104⟩, ⟨_, _, tg_105, AP_105, ck_105, tn_105⟩, ⟨_, _, tg_106, AP_106, ck_106, tn_106⟩, ⟨_, _, tg_108, AP_108, ck_108, tn_108⟩, ⟨_, _, tg_109, AP_109, ck_109, tn_109⟩, ⟨_, _, tg_110, AP_110, ck_110, tn_110⟩, ⟨_, _, tg_111, AP_111, ck_111, tn_111⟩, ⟨_, _, tg_112, AP_112, ck_112, tn_112⟩, ⟨_, _, tg_113, AP_113, ck_113, tn_113⟩, ⟨_, _, tg_114, AP_114, ck_114, tn_114⟩, ⟨_, _, tg_115, AP_115, ck_115, tn_115⟩, ⟨_, _, tg_116, AP_116, ck_116, tn_116⟩, ⟨_, _, tg_117, AP_117, ck_117, tn_117⟩, ⟨_, _, tg_118, AP_118, ck_118, tn_118⟩, ⟨_, _, tg_119, AP_119, ck_119, tn_119⟩, ⟨_, _, tg_120, AP_120, ck_120, tn_120⟩, ⟨_, _, tg_121, AP_121, ck_121, tn_121⟩, ⟨_, _, tg_122, AP_122, ck_122, tn_122⟩, ⟨_, _, tg_123, AP_123, ck_123, tn_123⟩, ⟨_, _, tg_124, AP_124, ck_124, tn_124⟩, ⟨_, _, tg_125, AP_125, ck_125, tn_125⟩, ⟨_, _, tg_126, AP_126, ck_126, tn_126⟩, ⟨_, _, tg_127, AP_127, ck_127, tn_127⟩, ⟨_, _, tg_128, AP_128, ck_128, tn_128⟩, ⟨_, _, tg_129, AP_129, ck_129, tn_129⟩, ⟨_, _, tg_130, AP_130, ck_130, tn_130⟩, ⟨_, _, tg_131, AP_131, ck_131, tn_131⟩, ⟨_, _, tg_132, AP_132, ck_132, tn_132⟩, ⟨_, _, tg_133, AP_133, ck_133, tn_133⟩, ⟨_, _, tg_134, AP_134, ck_134, tn_134⟩, ⟨_, _, tg_135, AP_135, ck_135, tn_135⟩, ⟨_, _, tg_136, AP_136, ck_136, tn_136⟩, ⟨_, _, tg_137, AP_137, ck_137, tn_137⟩, ⟨_, _, tg_138, AP_138, ck_138, tn_138⟩, ⟨_, _, tg_139, AP_139, ck_139, tn_139⟩, ⟨_, _, tg_140, AP_140, ck_140, tn_140⟩, trivial⟩
theorem AllE.mem : ∀ {l : List (Nat × Nat)}, AllE l → ∀ e ∈ l, ∃ fn af, TM.P.funcs[e.2]? = some fn ∧ AP e.1 = some af ∧ chkFn TM af fn = true ∧ (fn.name != "runtime.NumGoroutine" && !fn.body.isNone) = true := by
  intro l
  induction l with
  | nil => intro _ e he; cases he
  | cons x xs ih =>
    intro h e he
    rcases List.mem_cons.1 he with rfl | he
    · exact h.1
    · exact ih h.2 e he
theorem fmF_mem {f : Nat} {k : FuncId} (h : fmF f = some k) : (f, k) ∈ fmT := by
  unfold fmF at h
  simp only [Option.map_eq_some_iff] at h
  obtain ⟨p, hp, rfl⟩ := h
  have h1 := List.find?_some hp
  simp only [beq_iff_eq] at h1
  rw [← h1]
  exact List.mem_of_find?_eq_some hp
theorem fnsOk : FnsOk TM := by
  intro f k hk
  obtain ⟨fn, af, h1, h2, h3, h4⟩ := allE.mem _ (fmF_mem hk)
  simp only [Bool.and_eq_true, bne_iff_ne, Bool.not_eq_true'] at h4
  exact ⟨fn, h1, h4.1, h4.2⟩
theorem progP : ProgP TM AP := by
  intro f k af hk haf
  obtain ⟨fn, af', h1, h2, h3, h4⟩ := allE.mem _ (fmF_mem hk)
  rw [haf] at h2
  injection h2 with h2
  subst h2
  exact ⟨fn, h1, chkFn_ok h3⟩
theorem mixed : TM.P.follows .mixedOrders = true := by kernel_rfl
theorem mtOK : MtOK TM (mtOf mtL) := mtB_ok (by kernel_rfl)
theorem callOK : CallOK TM (run AP (mtOf mtL)) := sound_run fnsOk mtOK mixed progP
end Go.Ai
