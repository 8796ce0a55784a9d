/- The lowered program fits the program: function by function. Written by a program of this claim (mktie.py). -/
import Derived.Test.YtffliemhdjcflaaC6
import Derived.Test.YtffliemhdjcflaaB3
import Derived.Test.YtffliemhdjcflaaChecked
import Derived.KernelRfl
namespace Go.Ai
def fmT : List (Nat × Nat) := [(1, 4), (4, 7), (5, 8), (7, 10), (8, 11), (10, 13), (11, 14), (12, 15), (13, 16), (14, 17), (15, 18), (16, 19), (17, 20), (18, 21), (19, 22), (25, 28), (28, 31), (29, 32), (30, 33), (32, 35), (33, 36), (34, 37), (35, 38), (37, 40), (38, 41), (39, 42), (40, 43), (41, 44), (42, 45), (43, 46), (54, 57), (55, 58), (56, 59), (57, 60), (58, 61), (60, 63), (61, 64), (62, 65), (63, 66), (64, 67), (65, 68), (66, 69), (67, 70), (68, 71), (69, 72), (70, 73), (71, 74), (72, 75), (82, 85), (83, 86), (84, 87), (86, 89), (87, 90), (88, 91), (89, 92), (90, 93), (91, 94), (92, 95), (93, 96), (94, 97), (95, 98), (96, 99), (97, 100), (106, 109), (107, 110), (108, 111), (109, 112), (110, 113), (111, 114), (112, 115), (122, 125), (134, 137), (135, 138), (136, 139), (137, 140), (138, 141)]
def fmF : Nat → Option FuncId := fun n => (fmT.find? fun p => p.1 == n).map (·.2)
noncomputable def TM : SM := ⟨Go.Proofs.Try.prog, fmF, fun _ => none⟩
theorem g_1 : TM.P.funcs[4]? = some Go.Proofs.Try.f4 := by kernel_rfl
theorem n_1 : (Go.Proofs.Try.f4.name != "runtime.NumGoroutine" && !Go.Proofs.Try.f4.body.isNone) = true := by kernel_rfl
theorem g_4 : TM.P.funcs[7]? = some Go.Proofs.Try.f7 := by kernel_rfl
theorem n_4 : (Go.Proofs.Try.f7.name != "runtime.NumGoroutine" && !Go.Proofs.Try.f7.body.isNone) = true := by kernel_rfl
theorem g_5 : TM.P.funcs[8]? = some Go.Proofs.Try.f8 := by kernel_rfl
theorem n_5 : (Go.Proofs.Try.f8.name != "runtime.NumGoroutine" && !Go.Proofs.Try.f8.body.isNone) = true := by kernel_rfl
theorem g_7 : TM.P.funcs[10]? = some Go.Proofs.Try.f10 := by kernel_rfl
theorem n_7 : (Go.Proofs.Try.f10.name != "runtime.NumGoroutine" && !Go.Proofs.Try.f10.body.isNone) = true := by kernel_rfl
theorem g_8 : TM.P.funcs[11]? = some Go.Proofs.Try.f11 := by kernel_rfl
theorem n_8 : (Go.Proofs.Try.f11.name != "runtime.NumGoroutine" && !Go.Proofs.Try.f11.body.isNone) = true := by kernel_rfl
theorem g_10 : TM.P.funcs[13]? = some Go.Proofs.Try.f13 := by kernel_rfl
theorem n_10 : (Go.Proofs.Try.f13.name != "runtime.NumGoroutine" && !Go.Proofs.Try.f13.body.isNone) = true := by kernel_rfl
theorem g_11 : TM.P.funcs[14]? = some Go.Proofs.Try.f14 := by kernel_rfl
theorem n_11 : (Go.Proofs.Try.f14.name != "runtime.NumGoroutine" && !Go.Proofs.Try.f14.body.isNone) = true := by kernel_rfl
theorem g_12 : TM.P.funcs[15]? = some Go.Proofs.Try.f15 := by kernel_rfl
theorem n_12 : (Go.Proofs.Try.f15.name != "runtime.NumGoroutine" && !Go.Proofs.Try.f15.body.isNone) = true := by kernel_rfl
theorem g_13 : TM.P.funcs[16]? = some Go.Proofs.Try.f16 := by kernel_rfl
theorem n_13 : (Go.Proofs.Try.f16.name != "runtime.NumGoroutine" && !Go.Proofs.Try.f16.body.isNone) = true := by kernel_rfl
theorem g_14 : TM.P.funcs[17]? = some Go.Proofs.Try.f17 := by kernel_rfl
theorem n_14 : (Go.Proofs.Try.f17.name != "runtime.NumGoroutine" && !Go.Proofs.Try.f17.body.isNone) = true := by kernel_rfl
theorem g_15 : TM.P.funcs[18]? = some Go.Proofs.Try.f18 := by kernel_rfl
theorem n_15 : (Go.Proofs.Try.f18.name != "runtime.NumGoroutine" && !Go.Proofs.Try.f18.body.isNone) = true := by kernel_rfl
theorem g_16 : TM.P.funcs[19]? = some Go.Proofs.Try.f19 := by kernel_rfl
theorem n_16 : (Go.Proofs.Try.f19.name != "runtime.NumGoroutine" && !Go.Proofs.Try.f19.body.isNone) = true := by kernel_rfl
theorem g_17 : TM.P.funcs[20]? = some Go.Proofs.Try.f20 := by kernel_rfl
theorem n_17 : (Go.Proofs.Try.f20.name != "runtime.NumGoroutine" && !Go.Proofs.Try.f20.body.isNone) = true := by kernel_rfl
theorem g_18 : TM.P.funcs[21]? = some Go.Proofs.Try.f21 := by kernel_rfl
theorem n_18 : (Go.Proofs.Try.f21.name != "runtime.NumGoroutine" && !Go.Proofs.Try.f21.body.isNone) = true := by kernel_rfl
theorem g_19 : TM.P.funcs[22]? = some Go.Proofs.Try.f22 := by kernel_rfl
theorem n_19 : (Go.Proofs.Try.f22.name != "runtime.NumGoroutine" && !Go.Proofs.Try.f22.body.isNone) = true := by kernel_rfl
theorem g_25 : TM.P.funcs[28]? = some Go.Proofs.Try.f28 := by kernel_rfl
theorem n_25 : (Go.Proofs.Try.f28.name != "runtime.NumGoroutine" && !Go.Proofs.Try.f28.body.isNone) = true := by kernel_rfl
theorem g_28 : TM.P.funcs[31]? = some Go.Proofs.Try.f31 := by kernel_rfl
theorem n_28 : (Go.Proofs.Try.f31.name != "runtime.NumGoroutine" && !Go.Proofs.Try.f31.body.isNone) = true := by kernel_rfl
theorem g_29 : TM.P.funcs[32]? = some Go.Proofs.Try.f32 := by kernel_rfl
theorem n_29 : (Go.Proofs.Try.f32.name != "runtime.NumGoroutine" && !Go.Proofs.Try.f32.body.isNone) = true := by kernel_rfl
theorem g_30 : TM.P.funcs[33]? = some Go.Proofs.Try.f33 := by kernel_rfl
theorem n_30 : (Go.Proofs.Try.f33.name != "runtime.NumGoroutine" && !Go.Proofs.Try.f33.body.isNone) = true := by kernel_rfl
theorem g_32 : TM.P.funcs[35]? = some Go.Proofs.Try.f35 := by kernel_rfl
theorem n_32 : (Go.Proofs.Try.f35.name != "runtime.NumGoroutine" && !Go.Proofs.Try.f35.body.isNone) = true := by kernel_rfl
theorem g_33 : TM.P.funcs[36]? = some Go.Proofs.Try.f36 := by kernel_rfl
theorem n_33 : (Go.Proofs.Try.f36.name != "runtime.NumGoroutine" && !Go.Proofs.Try.f36.body.isNone) = true := by kernel_rfl
theorem g_34 : TM.P.funcs[37]? = some Go.Proofs.Try.f37 := by kernel_rfl
theorem n_34 : (Go.Proofs.Try.f37.name != "runtime.NumGoroutine" && !Go.Proofs.Try.f37.body.isNone) = true := by kernel_rfl
theorem g_35 : TM.P.funcs[38]? = some Go.Proofs.Try.f38 := by kernel_rfl
theorem n_35 : (Go.Proofs.Try.f38.name != "runtime.NumGoroutine" && !Go.Proofs.Try.f38.body.isNone) = true := by kernel_rfl
theorem g_37 : TM.P.funcs[40]? = some Go.Proofs.Try.f40 := by kernel_rfl
theorem n_37 : (Go.Proofs.Try.f40.name != "runtime.NumGoroutine" && !Go.Proofs.Try.f40.body.isNone) = true := by kernel_rfl
theorem g_38 : TM.P.funcs[41]? = some Go.Proofs.Try.f41 := by kernel_rfl
theorem n_38 : (Go.Proofs.Try.f41.name != "runtime.NumGoroutine" && !Go.Proofs.Try.f41.body.isNone) = true := by kernel_rfl
theorem g_39 : TM.P.funcs[42]? = some Go.Proofs.Try.f42 := by kernel_rfl
theorem n_39 : (Go.Proofs.Try.f42.name != "runtime.NumGoroutine" && !Go.Proofs.Try.f42.body.isNone) = true := by kernel_rfl
theorem g_40 : TM.P.funcs[43]? = some Go.Proofs.Try.f43 := by kernel_rfl
theorem n_40 : (Go.Proofs.Try.f43.name != "runtime.NumGoroutine" && !Go.Proofs.Try.f43.body.isNone) = true := by kernel_rfl
theorem g_41 : TM.P.funcs[44]? = some Go.Proofs.Try.f44 := by kernel_rfl
theorem n_41 : (Go.Proofs.Try.f44.name != "runtime.NumGoroutine" && !Go.Proofs.Try.f44.body.isNone) = true := by kernel_rfl
theorem g_42 : TM.P.funcs[45]? = some Go.Proofs.Try.f45 := by kernel_rfl
theorem n_42 : (Go.Proofs.Try.f45.name != "runtime.NumGoroutine" && !Go.Proofs.Try.f45.body.isNone) = true := by kernel_rfl
theorem g_43 : TM.P.funcs[46]? = some Go.Proofs.Try.f46 := by kernel_rfl
theorem n_43 : (Go.Proofs.Try.f46.name != "runtime.NumGoroutine" && !Go.Proofs.Try.f46.body.isNone) = true := by kernel_rfl
theorem g_54 : TM.P.funcs[57]? = some Go.Proofs.Try.f57 := by kernel_rfl
theorem n_54 : (Go.Proofs.Try.f57.name != "runtime.NumGoroutine" && !Go.Proofs.Try.f57.body.isNone) = true := by kernel_rfl
theorem g_55 : TM.P.funcs[58]? = some Go.Proofs.Try.f58 := by kernel_rfl
theorem n_55 : (Go.Proofs.Try.f58.name != "runtime.NumGoroutine" && !Go.Proofs.Try.f58.body.isNone) = true := by kernel_rfl
theorem g_56 : TM.P.funcs[59]? = some Go.Proofs.Try.f59 := by kernel_rfl
theorem n_56 : (Go.Proofs.Try.f59.name != "runtime.NumGoroutine" && !Go.Proofs.Try.f59.body.isNone) = true := by kernel_rfl
theorem g_57 : TM.P.funcs[60]? = some Go.Proofs.Try.f60 := by kernel_rfl
theorem n_57 : (Go.Proofs.Try.f60.name != "runtime.NumGoroutine" && !Go.Proofs.Try.f60.body.isNone) = true := by kernel_rfl
theorem g_58 : TM.P.funcs[61]? = some Go.Proofs.Try.f61 := by kernel_rfl
theorem n_58 : (Go.Proofs.Try.f61.name != "runtime.NumGoroutine" && !Go.Proofs.Try.f61.body.isNone) = true := by kernel_rfl
theorem g_60 : TM.P.funcs[63]? = some Go.Proofs.Try.f63 := by kernel_rfl
theorem n_60 : (Go.Proofs.Try.f63.name != "runtime.NumGoroutine" && !Go.Proofs.Try.f63.body.isNone) = true := by kernel_rfl
theorem g_61 : TM.P.funcs[64]? = some Go.Proofs.Try.f64 := by kernel_rfl
theorem n_61 : (Go.Proofs.Try.f64.name != "runtime.NumGoroutine" && !Go.Proofs.Try.f64.body.isNone) = true := by kernel_rfl
theorem g_62 : TM.P.funcs[65]? = some Go.Proofs.Try.f65 := by kernel_rfl
theorem n_62 : (Go.Proofs.Try.f65.name != "runtime.NumGoroutine" && !Go.Proofs.Try.f65.body.isNone) = true := by kernel_rfl
theorem g_63 : TM.P.funcs[66]? = some Go.Proofs.Try.f66 := by kernel_rfl
theorem n_63 : (Go.Proofs.Try.f66.name != "runtime.NumGoroutine" && !Go.Proofs.Try.f66.body.isNone) = true := by kernel_rfl
theorem g_64 : TM.P.funcs[67]? = some Go.Proofs.Try.f67 := by kernel_rfl
theorem n_64 : (Go.Proofs.Try.f67.name != "runtime.NumGoroutine" && !Go.Proofs.Try.f67.body.isNone) = true := by kernel_rfl
theorem g_65 : TM.P.funcs[68]? = some Go.Proofs.Try.f68 := by kernel_rfl
theorem n_65 : (Go.Proofs.Try.f68.name != "runtime.NumGoroutine" && !Go.Proofs.Try.f68.body.isNone) = true := by kernel_rfl
theorem g_66 : TM.P.funcs[69]? = some Go.Proofs.Try.f69 := by kernel_rfl
theorem n_66 : (Go.Proofs.Try.f69.name != "runtime.NumGoroutine" && !Go.Proofs.Try.f69.body.isNone) = true := by kernel_rfl
theorem g_67 : TM.P.funcs[70]? = some Go.Proofs.Try.f70 := by kernel_rfl
theorem n_67 : (Go.Proofs.Try.f70.name != "runtime.NumGoroutine" && !Go.Proofs.Try.f70.body.isNone) = true := by kernel_rfl
theorem g_68 : TM.P.funcs[71]? = some Go.Proofs.Try.f71 := by kernel_rfl
theorem n_68 : (Go.Proofs.Try.f71.name != "runtime.NumGoroutine" && !Go.Proofs.Try.f71.body.isNone) = true := by kernel_rfl
theorem g_69 : TM.P.funcs[72]? = some Go.Proofs.Try.f72 := by kernel_rfl
theorem n_69 : (Go.Proofs.Try.f72.name != "runtime.NumGoroutine" && !Go.Proofs.Try.f72.body.isNone) = true := by kernel_rfl
theorem g_70 : TM.P.funcs[73]? = some Go.Proofs.Try.f73 := by kernel_rfl
theorem n_70 : (Go.Proofs.Try.f73.name != "runtime.NumGoroutine" && !Go.Proofs.Try.f73.body.isNone) = true := by kernel_rfl
theorem g_71 : TM.P.funcs[74]? = some Go.Proofs.Try.f74 := by kernel_rfl
theorem n_71 : (Go.Proofs.Try.f74.name != "runtime.NumGoroutine" && !Go.Proofs.Try.f74.body.isNone) = true := by kernel_rfl
theorem g_72 : TM.P.funcs[75]? = some Go.Proofs.Try.f75 := by kernel_rfl
theorem n_72 : (Go.Proofs.Try.f75.name != "runtime.NumGoroutine" && !Go.Proofs.Try.f75.body.isNone) = true := by kernel_rfl
theorem g_82 : TM.P.funcs[85]? = some Go.Proofs.Try.f85 := by kernel_rfl
theorem n_82 : (Go.Proofs.Try.f85.name != "runtime.NumGoroutine" && !Go.Proofs.Try.f85.body.isNone) = true := by kernel_rfl
theorem g_83 : TM.P.funcs[86]? = some Go.Proofs.Try.f86 := by kernel_rfl
theorem n_83 : (Go.Proofs.Try.f86.name != "runtime.NumGoroutine" && !Go.Proofs.Try.f86.body.isNone) = true := by kernel_rfl
theorem g_84 : TM.P.funcs[87]? = some Go.Proofs.Try.f87 := by kernel_rfl
theorem n_84 : (Go.Proofs.Try.f87.name != "runtime.NumGoroutine" && !Go.Proofs.Try.f87.body.isNone) = true := by kernel_rfl
theorem g_86 : TM.P.funcs[89]? = some Go.Proofs.Try.f89 := by kernel_rfl
theorem n_86 : (Go.Proofs.Try.f89.name != "runtime.NumGoroutine" && !Go.Proofs.Try.f89.body.isNone) = true := by kernel_rfl
theorem g_87 : TM.P.funcs[90]? = some Go.Proofs.Try.f90 := by kernel_rfl
theorem n_87 : (Go.Proofs.Try.f90.name != "runtime.NumGoroutine" && !Go.Proofs.Try.f90.body.isNone) = true := by kernel_rfl
theorem g_88 : TM.P.funcs[91]? = some Go.Proofs.Try.f91 := by kernel_rfl
theorem n_88 : (Go.Proofs.Try.f91.name != "runtime.NumGoroutine" && !Go.Proofs.Try.f91.body.isNone) = true := by kernel_rfl
theorem g_89 : TM.P.funcs[92]? = some Go.Proofs.Try.f92 := by kernel_rfl
theorem n_89 : (Go.Proofs.Try.f92.name != "runtime.NumGoroutine" && !Go.Proofs.Try.f92.body.isNone) = true := by kernel_rfl
theorem g_90 : TM.P.funcs[93]? = some Go.Proofs.Try.f93 := by kernel_rfl
theorem n_90 : (Go.Proofs.Try.f93.name != "runtime.NumGoroutine" && !Go.Proofs.Try.f93.body.isNone) = true := by kernel_rfl
theorem g_91 : TM.P.funcs[94]? = some Go.Proofs.Try.f94 := by kernel_rfl
theorem n_91 : (Go.Proofs.Try.f94.name != "runtime.NumGoroutine" && !Go.Proofs.Try.f94.body.isNone) = true := by kernel_rfl
theorem g_92 : TM.P.funcs[95]? = some Go.Proofs.Try.f95 := by kernel_rfl
theorem n_92 : (Go.Proofs.Try.f95.name != "runtime.NumGoroutine" && !Go.Proofs.Try.f95.body.isNone) = true := by kernel_rfl
theorem g_93 : TM.P.funcs[96]? = some Go.Proofs.Try.f96 := by kernel_rfl
theorem n_93 : (Go.Proofs.Try.f96.name != "runtime.NumGoroutine" && !Go.Proofs.Try.f96.body.isNone) = true := by kernel_rfl
theorem g_94 : TM.P.funcs[97]? = some Go.Proofs.Try.f97 := by kernel_rfl
theorem n_94 : (Go.Proofs.Try.f97.name != "runtime.NumGoroutine" && !Go.Proofs.Try.f97.body.isNone) = true := by kernel_rfl
theorem g_95 : TM.P.funcs[98]? = some Go.Proofs.Try.f98 := by kernel_rfl
theorem n_95 : (Go.Proofs.Try.f98.name != "runtime.NumGoroutine" && !Go.Proofs.Try.f98.body.isNone) = true := by kernel_rfl
theorem g_96 : TM.P.funcs[99]? = some Go.Proofs.Try.f99 := by kernel_rfl
theorem n_96 : (Go.Proofs.Try.f99.name != "runtime.NumGoroutine" && !Go.Proofs.Try.f99.body.isNone) = true := by kernel_rfl
theorem g_97 : TM.P.funcs[100]? = some Go.Proofs.Try.f100 := by kernel_rfl
theorem n_97 : (Go.Proofs.Try.f100.name != "runtime.NumGoroutine" && !Go.Proofs.Try.f100.body.isNone) = true := by kernel_rfl
theorem g_106 : TM.P.funcs[109]? = some Go.Proofs.Try.f109 := by kernel_rfl
theorem n_106 : (Go.Proofs.Try.f109.name != "runtime.NumGoroutine" && !Go.Proofs.Try.f109.body.isNone) = true := by kernel_rfl
theorem g_107 : TM.P.funcs[110]? = some Go.Proofs.Try.f110 := by kernel_rfl
theorem n_107 : (Go.Proofs.Try.f110.name != "runtime.NumGoroutine" && !Go.Proofs.Try.f110.body.isNone) = true := by kernel_rfl
theorem g_108 : TM.P.funcs[111]? = some Go.Proofs.Try.f111 := by kernel_rfl
theorem n_108 : (Go.Proofs.Try.f111.name != "runtime.NumGoroutine" && !Go.Proofs.Try.f111.body.isNone) = true := by kernel_rfl
theorem g_109 : TM.P.funcs[112]? = some Go.Proofs.Try.f112 := by kernel_rfl
theorem n_109 : (Go.Proofs.Try.f112.name != "runtime.NumGoroutine" && !Go.Proofs.Try.f112.body.isNone) = true := by kernel_rfl
theorem g_110 : TM.P.funcs[113]? = some Go.Proofs.Try.f113 := by kernel_rfl
theorem n_110 : (Go.Proofs.Try.f113.name != "runtime.NumGoroutine" && !Go.Proofs.Try.f113.body.isNone) = true := by kernel_rfl
theorem g_111 : TM.P.funcs[114]? = some Go.Proofs.Try.f114 := by kernel_rfl
theorem n_111 : (Go.Proofs.Try.f114.name != "runtime.NumGoroutine" && !Go.Proofs.Try.f114.body.isNone) = true := by kernel_rfl
theorem g_112 : TM.P.funcs[115]? = some Go.Proofs.Try.f115 := by kernel_rfl
theorem n_112 : (Go.Proofs.Try.f115.name != "runtime.NumGoroutine" && !Go.Proofs.Try.f115.body.isNone) = true := by kernel_rfl
theorem g_122 : TM.P.funcs[125]? = some Go.Proofs.Try.f125 := by kernel_rfl
theorem n_122 : (Go.Proofs.Try.f125.name != "runtime.NumGoroutine" && !Go.Proofs.Try.f125.body.isNone) = true := by kernel_rfl
theorem g_134 : TM.P.funcs[137]? = some Go.Proofs.Try.f137 := by kernel_rfl
theorem n_134 : (Go.Proofs.Try.f137.name != "runtime.NumGoroutine" && !Go.Proofs.Try.f137.body.isNone) = true := by kernel_rfl
theorem g_135 : TM.P.funcs[138]? = some Go.Proofs.Try.f138 := by kernel_rfl
theorem n_135 : (Go.Proofs.Try.f138.name != "runtime.NumGoroutine" && !Go.Proofs.Try.f138.body.isNone) = true := by kernel_rfl
theorem g_136 : TM.P.funcs[139]? = some Go.Proofs.Try.f139 := by kernel_rfl
theorem n_136 : (Go.Proofs.Try.f139.name != "runtime.NumGoroutine" && !Go.Proofs.Try.f139.body.isNone) = true := by kernel_rfl
theorem g_137 : TM.P.funcs[140]? = some Go.Proofs.Try.f140 := by kernel_rfl
theorem n_137 : (Go.Proofs.Try.f140.name != "runtime.NumGoroutine" && !Go.Proofs.Try.f140.body.isNone) = true := by kernel_rfl
theorem g_138 : TM.P.funcs[141]? = some Go.Proofs.Try.f141 := by kernel_rfl
theorem n_138 : (Go.Proofs.Try.f141.name != "runtime.NumGoroutine" && !Go.Proofs.Try.f141.body.isNone) = true := by kernel_rfl
theorem ck_1 : chkFn TM c_1 Go.Proofs.Try.f4 = true := by kernel_rfl
theorem ck_4 : chkFn TM c_4 Go.Proofs.Try.f7 = true := by kernel_rfl
theorem ck_5 : chkFn TM c_5 Go.Proofs.Try.f8 = true := by kernel_rfl
theorem ck_7 : chkFn TM c_7 Go.Proofs.Try.f10 = true := by kernel_rfl
theorem ck_8 : chkFn TM c_8 Go.Proofs.Try.f11 = true := by kernel_rfl
theorem ck_10 : chkFn TM c_10 Go.Proofs.Try.f13 = true := by kernel_rfl
theorem ck_11 : chkFn TM c_11 Go.Proofs.Try.f14 = true := by kernel_rfl
theorem ck_12 : chkFn TM c_12 Go.Proofs.Try.f15 = true := by kernel_rfl
theorem ck_13 : chkFn TM c_13 Go.Proofs.Try.f16 = true := by kernel_rfl
theorem ck_14 : chkFn TM c_14 Go.Proofs.Try.f17 = true := by kernel_rfl
theorem ck_15 : chkFn TM c_15 Go.Proofs.Try.f18 = true := by kernel_rfl
theorem ck_16 : chkFn TM c_16 Go.Proofs.Try.f19 = true := by kernel_rfl
theorem ck_17 : chkFn TM c_17 Go.Proofs.Try.f20 = true := by kernel_rfl
theorem ck_18 : chkFn TM c_18 Go.Proofs.Try.f21 = true := by kernel_rfl
theorem ck_19 : chkFn TM c_19 Go.Proofs.Try.f22 = true := by kernel_rfl
theorem ck_25 : chkFn TM c_25 Go.Proofs.Try.f28 = true := by kernel_rfl
theorem ck_28 : chkFn TM c_28 Go.Proofs.Try.f31 = true := by kernel_rfl
theorem ck_29 : chkFn TM c_29 Go.Proofs.Try.f32 = true := by kernel_rfl
theorem ck_30 : chkFn TM c_30 Go.Proofs.Try.f33 = true := by kernel_rfl
theorem ck_32 : chkFn TM c_32 Go.Proofs.Try.f35 = true := by kernel_rfl
theorem ck_33 : chkFn TM c_33 Go.Proofs.Try.f36 = true := by kernel_rfl
theorem ck_34 : chkFn TM c_34 Go.Proofs.Try.f37 = true := by kernel_rfl
theorem ck_35 : chkFn TM c_35 Go.Proofs.Try.f38 = true := by kernel_rfl
theorem ck_37 : chkFn TM c_37 Go.Proofs.Try.f40 = true := by kernel_rfl
theorem ck_38 : chkFn TM c_38 Go.Proofs.Try.f41 = true := by kernel_rfl
theorem ck_39 : chkFn TM c_39 Go.Proofs.Try.f42 = true := by kernel_rfl
theorem ck_40 : chkFn TM c_40 Go.Proofs.Try.f43 = true := by kernel_rfl
theorem ck_41 : chkFn TM c_41 Go.Proofs.Try.f44 = true := by kernel_rfl
theorem ck_42 : chkFn TM c_42 Go.Proofs.Try.f45 = true := by kernel_rfl
theorem ck_43 : chkFn TM c_43 Go.Proofs.Try.f46 = true := by kernel_rfl
theorem ck_54 : chkFn TM c_54 Go.Proofs.Try.f57 = true := by kernel_rfl
theorem ck_55 : chkFn TM c_55 Go.Proofs.Try.f58 = true := by kernel_rfl
theorem ck_56 : chkFn TM c_56 Go.Proofs.Try.f59 = true := by kernel_rfl
theorem ck_57 : chkFn TM c_57 Go.Proofs.Try.f60 = true := by kernel_rfl
theorem ck_58 : chkFn TM c_58 Go.Proofs.Try.f61 = true := by kernel_rfl
theorem ck_60 : chkFn TM c_60 Go.Proofs.Try.f63 = true := by kernel_rfl
theorem ck_61 : chkFn TM c_61 Go.Proofs.Try.f64 = true := by kernel_rfl
theorem ck_62 : chkFn TM c_62 Go.Proofs.Try.f65 = true := by kernel_rfl
theorem ck_63 : chkFn TM c_63 Go.Proofs.Try.f66 = true := by kernel_rfl
theorem ck_64 : chkFn TM c_64 Go.Proofs.Try.f67 = true := by kernel_rfl
theorem ck_65 : chkFn TM c_65 Go.Proofs.Try.f68 = true := by kernel_rfl
theorem ck_66 : chkFn TM c_66 Go.Proofs.Try.f69 = true := by kernel_rfl
theorem ck_67 : chkFn TM c_67 Go.Proofs.Try.f70 = true := by kernel_rfl
theorem ck_68 : chkFn TM c_68 Go.Proofs.Try.f71 = true := by kernel_rfl
theorem ck_69 : chkFn TM c_69 Go.Proofs.Try.f72 = true := by kernel_rfl
theorem ck_70 : chkFn TM c_70 Go.Proofs.Try.f73 = true := by kernel_rfl
theorem ck_71 : chkFn TM c_71 Go.Proofs.Try.f74 = true := by kernel_rfl
theorem ck_72 : chkFn TM c_72 Go.Proofs.Try.f75 = true := by kernel_rfl
theorem ck_82 : chkFn TM c_82 Go.Proofs.Try.f85 = true := by kernel_rfl
theorem ck_83 : chkFn TM c_83 Go.Proofs.Try.f86 = true := by kernel_rfl
theorem ck_84 : chkFn TM c_84 Go.Proofs.Try.f87 = true := by kernel_rfl
theorem ck_86 : chkFn TM c_86 Go.Proofs.Try.f89 = true := by kernel_rfl
theorem ck_87 : chkFn TM c_87 Go.Proofs.Try.f90 = true := by kernel_rfl
theorem ck_88 : chkFn TM c_88 Go.Proofs.Try.f91 = true := by kernel_rfl
theorem ck_89 : chkFn TM c_89 Go.Proofs.Try.f92 = true := by kernel_rfl
theorem ck_90 : chkFn TM c_90 Go.Proofs.Try.f93 = true := by kernel_rfl
theorem ck_91 : chkFn TM c_91 Go.Proofs.Try.f94 = true := by kernel_rfl
theorem ck_92 : chkFn TM c_92 Go.Proofs.Try.f95 = true := by kernel_rfl
theorem ck_93 : chkFn TM c_93 Go.Proofs.Try.f96 = true := by kernel_rfl
theorem ck_94 : chkFn TM c_94 Go.Proofs.Try.f97 = true := by kernel_rfl
theorem ck_95 : chkFn TM c_95 Go.Proofs.Try.f98 = true := by kernel_rfl
theorem ck_96 : chkFn TM c_96 Go.Proofs.Try.f99 = true := by kernel_rfl
theorem ck_97 : chkFn TM c_97 Go.Proofs.Try.f100 = true := by kernel_rfl
theorem ck_106 : chkFn TM c_106 Go.Proofs.Try.f109 = true := by kernel_rfl
theorem ck_107 : chkFn TM c_107 Go.Proofs.Try.f110 = true := by kernel_rfl
theorem ck_108 : chkFn TM c_108 Go.Proofs.Try.f111 = true := by kernel_rfl
theorem ck_109 : chkFn TM c_109 Go.Proofs.Try.f112 = true := by kernel_rfl
theorem ck_110 : chkFn TM c_110 Go.Proofs.Try.f113 = true := by kernel_rfl
theorem ck_111 : chkFn TM c_111 Go.Proofs.Try.f114 = true := by kernel_rfl
theorem ck_112 : chkFn TM c_112 Go.Proofs.Try.f115 = true := by kernel_rfl
theorem ck_122 : chkFn TM c_122 Go.Proofs.Try.f125 = true := by kernel_rfl
theorem ck_134 : chkFn TM c_134 Go.Proofs.Try.f137 = true := by kernel_rfl
theorem ck_135 : chkFn TM c_135 Go.Proofs.Try.f138 = true := by kernel_rfl
theorem ck_136 : chkFn TM c_136 Go.Proofs.Try.f139 = true := by kernel_rfl
theorem ck_137 : chkFn TM c_137 Go.Proofs.Try.f140 = true := by kernel_rfl
theorem ck_138 : chkFn TM c_138 Go.Proofs.Try.f141 = true := by kernel_rfl
def AllE : List (Nat × Nat) → Prop
  | [] => True
  | e :: r => (∃ fn af, TM.P.funcs[e.2]? = some fn ∧ AP e.1 = some af ∧ chkFn TM af fn = true ∧ (fn.name != "runtime.NumGoroutine" && !fn.body.isNone) = true) ∧ AllE r
theorem allE : AllE fmT := ⟨⟨_, _, g_1, AP_1, ck_1, n_1⟩, ⟨_, _, g_4, AP_4, ck_4, n_4⟩, ⟨_, _, g_5, AP_5, ck_5, n_5⟩, ⟨_, _, g_7, AP_7, ck_7, n_7⟩, ⟨_, _, g_8, AP_8, ck_8, n_8⟩, ⟨_, _, g_10, AP_10, ck_10, n_10⟩, ⟨_, _, g_11, AP_11, ck_11, n_11⟩, ⟨_, _, g_12, AP_12, ck_12, n_12⟩, ⟨_, _, g_13, AP_13, ck_13, n_13⟩, ⟨_, _, g_14, AP_14, ck_14, n_14⟩, ⟨_, _, g_15, AP_15, ck_15, n_15⟩, ⟨_, _, g_16, AP_16, ck_16, n_16⟩, ⟨_, _, g_17, AP_17, ck_17, n_17⟩, ⟨_, _, g_18, AP_18, ck_18, n_18⟩, ⟨_, _, g_19, AP_19, ck_19, n_19⟩, ⟨_, _, g_25, AP_25, ck_25, n_25⟩, ⟨_, _, g_28, AP_28, ck_28, n_28⟩, ⟨_, _, g_29, AP_29, ck_29, n_29⟩, ⟨_, _, g_30, AP_30, ck_30, n_30⟩, ⟨_, _, g_32, AP_32, ck_32, n_32⟩, ⟨_, _, g_33, AP_33, ck_33, n_33⟩, ⟨_, _, g_34, AP_34, ck_34, n_34⟩, ⟨_, _, g_35, AP_35, ck_35, n_35⟩, ⟨_, _, g_37, AP_37, ck_37, n_37⟩, ⟨_, _, g_38, AP_38, ck_38, n_38⟩, ⟨_, _, g_39, AP_39, ck_39, n_39⟩, ⟨_, _, g_40, AP_40, ck_40, n_40⟩, ⟨_, _, g_41, AP_41, ck_41, n_41⟩, ⟨_, _, g_42, AP_42, ck_42, n_42⟩, ⟨_, _, g_43, AP_43, ck_43, n_43⟩, ⟨_, _, g_54, AP_54, ck_54, n_54⟩, ⟨_, _, g_55, AP_55, ck_55, n_55⟩, ⟨_, _, g_56, AP_56, ck_56, n_56⟩, ⟨_, _, g_57, AP_57, ck_57, n_57⟩, ⟨_, _, g_58, AP_58, ck_58, n_58⟩, ⟨_, _, g_60, AP_60, ck_60, n_60⟩, ⟨_, _, g_61, AP_61, ck_61, n_61⟩, ⟨_, _, g_62, AP_62, ck_62, n_62⟩, ⟨_, _, g_63, AP_63, ck_63, n_63⟩, ⟨_, _, g_64, AP_64, ck_64, n_64⟩, ⟨_, _, g_65, AP_65, ck_65, n_65⟩, ⟨_, _, g_66, AP_66, ck_66, n_66⟩, ⟨_, _, g_67, AP_67, ck_67, n_67⟩, ⟨_, _, g_68, AP_68, ck_68, n_68⟩, ⟨_, _, g_69, AP_69, ck_69, n_69⟩, ⟨_, _, g_70, AP_70, ck_70, n_70⟩, ⟨_, _, g_71, AP_71, ck_71, n_71⟩, ⟨_, _, g_72, AP_72, ck_72, n_72⟩, ⟨_, _, g_82, AP_82, ck_82, n_82⟩, ⟨_, _, g_83, AP_83, ck_83, n_83⟩, ⟨_, _, g_84, AP_84, ck_84, n_84⟩, ⟨_, _, g_86, AP_86, ck_86, n_86⟩, ⟨_, _, g_87, AP_87, ck_87, n_87⟩, ⟨_, _, g_88, AP_88, ck_88, n_88⟩, ⟨_, _, g_89, AP_89, ck_89, n_89⟩, ⟨_, _, g_90, AP_90, ck_90, n_90⟩, ⟨_, _, g_91, AP_91, ck_91, n_91⟩, ⟨_, _, g_92, AP_92, ck_92, n_92⟩, ⟨_, _, g_93, AP_93, ck_93, n_93⟩, ⟨_, _, g_94, AP_94, ck_94, n_94⟩, ⟨_, _, g_95, AP_95, ck_95, n_95⟩, ⟨_, _, g_96, AP_96, ck_96, n_96⟩, ⟨_, _, g_97, AP_97, ck_97, n_97⟩, ⟨_, _, g_106, AP_106, ck_106, n_106⟩, ⟨_, _, g_107, AP_107, ck_107, n_107⟩, ⟨_, _, g_108, AP_108, ck_108, n_108⟩, ⟨_, _, g_109, AP_109, ck_109, n_109⟩, ⟨_, _, g_110, AP_110, ck_110, n_110⟩, ⟨_, _, g_111, AP_111, ck_111, n_111⟩, ⟨_, _, g_112, AP_112, ck_112, n_112⟩, ⟨_, _, g_122, AP_122, ck_122, n_122⟩, ⟨_, _, g_134, AP_134, ck_134, n_134⟩, ⟨_, _, g_135, AP_135, ck_135, n_135⟩, ⟨_, _, g_136, AP_136, ck_136, n_136⟩, ⟨_, _, g_137, AP_137, ck_137, n_137⟩, ⟨_, _, g_138, AP_138, ck_138, n_138⟩, trivial⟩
theorem AllE.mem : ∀ {l : List (Nat × Nat)}, AllE l → ∀ e ∈ l, ∃ fn af, TM.P.funcs[e.2]? = some fn ∧ AP e.1 = some af ∧ chkFn TM af fn = true ∧ (fn.name != "runtime.NumGoroutine" && !fn.body.isNone) = true := by
  intro l
  induction l with
  | nil => intro _ e he; cases he
  | cons x xs ih =>
    intro h e he
    rcases List.mem_cons.1 he with rfl | he
    · exact h.1
    · exact ih h.2 e he
theorem fmF_mem {f : Nat} {k : FuncId} (h : fmF f = some k) : (f, k) ∈ fmT := by
  unfold fmF at h
  simp only [Option.map_eq_some_iff] at h
  obtain ⟨p, hp, rfl⟩ := h
  have h1 := List.find?_some hp
  simp only [beq_iff_eq] at h1
  rw [← h1]
  exact List.mem_of_find?_eq_some hp
theorem fnsOk : FnsOk TM := by
  intro f k hk
  obtain ⟨fn, af, h1, h2, h3, h4⟩ := allE.mem _ (fmF_mem hk)
  simp only [Bool.and_eq_true, bne_iff_ne, Bool.not_eq_true'] at h4
  exact ⟨fn, h1, h4.1, h4.2⟩
theorem progP : ProgP TM AP := by
  intro f k af hk haf
  obtain ⟨fn, af', h1, h2, h3, h4⟩ := allE.mem _ (fmF_mem hk)
  rw [haf] at h2
  injection h2 with h2
  subst h2
  exact ⟨fn, h1, chkFn_ok h3⟩
theorem mixed : TM.P.follows .mixedOrders = true := by kernel_rfl
theorem callOK (mt : Nat → Nat → Option Nat) : CallOK TM (run AP mt) := sound_run fnsOk mixed progP
end Go.Ai
