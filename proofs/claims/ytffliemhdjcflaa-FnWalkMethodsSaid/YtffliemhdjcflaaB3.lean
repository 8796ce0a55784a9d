/- The lowered program. Written by a program of this claim (mkprog.py). -/
import Derived.Test.YtffliemhdjcflaaB1
namespace Go.Ai
/-- laws.FnWalkMethods -/
def c_3 : AFn := ⟨1, 72, [3, 4, 6], [.t 2],
  (.seq (.reg [⟨0, some 2, none, .mv (.c (.bool false))⟩] [0])
  (.seq (.seq (.reg [xm 0 8 0,
    ⟨1, some 9, none, .len (.t 8)⟩,
    ⟨2, some 10, none, .bin .gtr (.t 9) (.c (.int .i64 1048576))⟩] [0, 10])
  (.cond (.t 10)
  (.seq (.reg [⟨0, some 2, none, .mv (.c (.bool true))⟩] [2])
  .ret)
  .skip))
  (.seq (.reg [xm 0 12 0,
    ⟨1, some 13, none, .call (.alone false true) 23 [.t 12]⟩, xm 2 11 13,
    ⟨3, some 14, none, .ext (.t 11) 0⟩,
    ⟨4, some 15, none, .ext (.t 11) 1⟩,
    ⟨5, some 3, none, .allocP [.nils]⟩,
    ⟨6, some 4, none, .allocP [.nils, .int .i64 0, .int .i64 0, .nils, .int .i64 0]⟩,
    ⟨7, none, none, .store 1 (.t 3) (.t 14)⟩,
    ⟨8, none, none, .store 5 (.t 4) (.t 15)⟩] [3, 4])
  (.seq (.reg [xL 0 16 1 3, xL 1 17 5 4,
    ⟨2, some 18, none, .call (.alone false true) 14 [.t 16, .t 17]⟩, xm 3 5 18] [3, 4, 5])
  (.seq (.seq (.reg [xm 0 19 5, xL 1 20 1 3, xL 2 21 5 4,
    ⟨3, some 22, none, .call (.alone false true) 13 [.t 20, .t 21]⟩,
    ⟨4, some 23, none, .call (.alone false true) 24 [.t 19, .t 22]⟩,
    ⟨5, some 24, none, .nt (.t 23)⟩, xm 6 25 24,
    ⟨7, some 26, some (25, false), .load (some 1) (.t 3)⟩,
    ⟨8, some 27, some (25, false), .load (some 5) (.t 4)⟩,
    ⟨9, some 28, some (25, false), .call (.alone false true) 25 [.t 26, .t 27]⟩,
    ⟨10, some 29, some (25, false), .nt (.t 28)⟩,
    ⟨11, some 30, none, .pick (.t 25) (.c (.bool true)) (.t 29)⟩] [3, 4, 5, 30])
  (.cond (.t 30)
  (.seq (.reg [xm 0 31 5, xL 1 32 1 3, xL 2 33 5 4,
    ⟨3, some 34, none, .call (.alone false true) 13 [.t 32, .t 33]⟩,
    ⟨4, some 35, none, .call (.alone false true) 24 [.t 31, .t 34]⟩, xm 5 2 35] [2])
  .ret)
  .skip))
  (.seq (.reg [xL 0 37 1 3, xL 1 38 5 4,
    ⟨2, some 39, none, .call (.alone false true) 21 [.t 37, .t 38, .c (.int .i64 3), .c (.int .i64 20)]⟩, xm 3 36 39,
    ⟨4, some 40, none, .ext (.t 36) 0⟩,
    ⟨5, some 41, none, .ext (.t 36) 1⟩,
    ⟨6, some 6, none, .allocP [.int .i64 0, .nils, .nils, .int .i64 0, .nils, .int .i64 0, .nils, .int .i64 0]⟩,
    ⟨7, none, none, .store 8 (.t 6) (.t 40)⟩, xm 8 7 41] [3, 4, 5, 6])
  (.seq (.reg [xm 0 42 5,
    ⟨1, some 43, none, .len (.t 42)⟩, xL 2 44 5 4,
    ⟨3, some 45, none, .call (.alone false true) 26 [.t 44]⟩,
    ⟨4, some 46, none, .bin .eql (.t 43) (.t 45)⟩, xm 5 47 46,
    ⟨6, some 48, some (47, true), .load (some 1) (.t 3)⟩,
    ⟨7, some 49, some (47, true), .load (some 8) (.t 6)⟩,
    ⟨8, some 50, some (47, true), .call (.alone false true) 27 [.t 48, .t 49]⟩,
    ⟨9, some 51, some (47, true), .mv (.t 5)⟩,
    ⟨10, some 52, some (47, true), .call (.alone false true) 24 [.t 50, .t 51]⟩,
    ⟨11, some 53, none, .pick (.t 47) (.t 52) (.c (.bool false))⟩, xm 12 54 53,
    ⟨13, some 55, some (54, true), .mv (.t 5)⟩,
    ⟨14, some 56, some (54, true), .len (.t 55)⟩,
    ⟨15, some 57, some (54, true), .bin .eql (.t 56) (.c (.int .i64 0))⟩,
    ⟨16, some 58, some (54, true), .mv (.t 57)⟩,
    ⟨17, some 59, some (58, false), .mv (.t 5)⟩,
    ⟨18, some 60, some (58, false), .idx 1 (.t 59) (.c (.int .i64 0))⟩,
    ⟨19, some 61, some (58, false), .load none (.t 60)⟩,
    ⟨20, some 62, some (58, false), .fld 0 (.t 4)⟩,
    ⟨21, some 63, some (58, false), .load none (.t 62)⟩,
    ⟨22, some 64, some (58, false), .fld 1 (.t 4)⟩,
    ⟨23, some 65, some (58, false), .load none (.t 64)⟩,
    ⟨24, some 66, some (58, false), .idx 6 (.t 63) (.t 65)⟩,
    ⟨25, some 67, some (58, false), .fld 0 (.t 66)⟩,
    ⟨26, some 68, some (58, false), .load none (.t 67)⟩,
    ⟨27, some 69, some (58, false), .bin .eql (.t 61) (.t 68)⟩,
    ⟨28, some 70, some (54, true), .pick (.t 58) (.c (.bool true)) (.t 69)⟩,
    ⟨29, some 71, none, .pick (.t 54) (.t 70) (.c (.bool false))⟩, xm 30 2 71] [2])
  .ret)))))))⟩
def b_13_0 : AC := (.seq (.seq (.reg [xm 0 16 7, xm 1 17 6,
    ⟨2, some 18, none, .len (.t 17)⟩,
    ⟨3, some 19, none, .bin .lss (.t 16) (.t 18)⟩] [3, 5, 6, 7, 19])
  (.cond (.t 19)
  .skip
  (.exit 0)))
  (.seq (.block 1
  (.reg [xm 0 22 5, xf 1 23 0 3, xl 2 24 23, xm 3 25 6, xm 4 26 7, xi 5 27 1 25 26, xl 6 28 27, xi 7 29 6 24 28, xf 8 30 0 29, xl 9 31 30,
    ⟨10, some 32, none, .litI 1 [.t 31]⟩,
    ⟨11, some 33, none, .app 1 8 (.t 22) (.t 32)⟩, xm 12 5 33] [3, 5, 6, 7]))
  (.reg [xm 0 20 7,
    ⟨1, some 21, none, .bin .add (.t 20) (.c (.int .i64 1))⟩, xm 2 7 21] [3, 5, 6, 7])))
def l_13_0 : AC := b_13_0
theorem u_13_0 {A : Nat → Option AFn} {mt : Nat → Nat → Option Nat} {fr : Fr} {G : AG} {S : List KF} : evS A mt l_13_0 fr G S = evS A mt b_13_0 fr G S := rfl
/-- spec.HeapMethods -/
def c_13 : AFn := ⟨2, 35, [2, 3], [.t 4],
  (.seq (.reg [⟨0, some 2, none, .boxP (.t 0)⟩,
    ⟨1, some 3, none, .boxP (.t 1)⟩,
    ⟨2, some 4, none, .mv (.c (.nils))⟩] [2, 3])
  (.seq (.reg [⟨0, some 8, none, .litO 1 []⟩, xm 1 5 8] [2, 3, 5])
  (.seq (.seq (.reg [xL 0 9 1 2, xL 1 10 5 3,
    ⟨2, some 11, none, .call (.alone false true) 25 [.t 9, .t 10]⟩,
    ⟨3, some 12, none, .nt (.t 11)⟩] [3, 5, 12])
  (.cond (.t 12)
  (.seq (.reg [xm 0 13 5, xm 1 4 13] [4])
  .ret)
  .skip))
  (.seq (.reg [xL 0 14 5 3,
    ⟨1, some 15, none, .call (.alone false true) 40 [.t 14]⟩, xm 2 6 15] [3, 5, 6])
  (.seq (.seq (.reg [⟨0, some 7, none, .mv (.c (.int .i64 0))⟩] [3, 5, 6, 7])
  (.block 0
  (.loop l_13_0)))
  (.seq (.reg [xm 0 34 5, xm 1 4 34] [4])
  .ret))))))⟩
def b_14_0 : AC := (.seq (.seq (.reg [xm 0 13 6,
    ⟨1, some 14, none, .bin .geq (.t 13) (.c (.int .i64 0))⟩] [3, 5, 6, 14])
  (.cond (.t 14)
  .skip
  (.exit 0)))
  (.seq (.block 1
  (.reg [xm 0 21 5, xf 1 22 0 3, xl 2 23 22, xm 3 24 6, xi 4 25 6 23 24, xf 5 26 0 25, xl 6 27 26,
    ⟨7, some 28, none, .litI 1 [.t 27]⟩,
    ⟨8, some 29, none, .app 1 8 (.t 21) (.t 28)⟩, xm 9 5 29] [3, 5, 6]))
  (.reg [xf 0 15 0 3, xl 1 16 15, xm 2 17 6, xi 3 18 6 16 17, xf 4 19 4 18, xl 5 20 19, xm 6 6 20] [3, 5, 6])))
def l_14_0 : AC := b_14_0
theorem u_14_0 {A : Nat → Option AFn} {mt : Nat → Nat → Option Nat} {fr : Fr} {G : AG} {S : List KF} : evS A mt l_14_0 fr G S = evS A mt b_14_0 fr G S := rfl
/-- impl.HeapMethods -/
def c_14 : AFn := ⟨2, 31, [2, 3], [.t 4],
  (.seq (.reg [⟨0, some 2, none, .boxP (.t 0)⟩,
    ⟨1, some 3, none, .boxP (.t 1)⟩,
    ⟨2, some 4, none, .mv (.c (.nils))⟩] [2, 3])
  (.seq (.seq (.reg [xL 0 7 1 2, xL 1 8 5 3,
    ⟨2, some 9, none, .call (.alone false true) 35 [.t 7, .t 8]⟩,
    ⟨3, some 10, none, .nt (.t 9)⟩] [3, 10])
  (.cond (.t 10)
  (.seq (.reg [⟨0, some 4, none, .mv (.c (.nils))⟩] [4])
  .ret)
  .skip))
  (.seq (.reg [⟨0, some 5, none, .mv (.c (.nils))⟩] [3, 5])
  (.seq (.seq (.reg [xf 0 11 1 3, xl 1 12 11, xm 2 6 12] [3, 5, 6])
  (.block 0
  (.loop l_14_0)))
  (.seq (.reg [xm 0 30 5, xm 1 4 30] [4])
  .ret)))))⟩
def b_21_0 : AC := (.seq (.reg [⟨0, some 42, none, .bin .lss (.t 41) (.t 40)⟩] [5, 8, 10, 39, 40, 41, 42])
  (.seq (.cond (.t 42)
  .skip
  (.exit 0))
  (.seq (.block 1
  (.seq (.reg [xi 0 43 6 39 41, xL 1 44 6 43,
    ⟨2, some 12, none, .allocP [.int .i64 0, .int .i64 0, .nils, .nils, .int .i64 0, .bool false]⟩,
    ⟨3, none, none, .store 6 (.t 12) (.t 44)⟩] [5, 8, 10, 12, 39, 40, 41])
  (.reg [xf 0 45 4 10, xl 1 46 45, xL 2 47 6 12,
    ⟨3, some 48, none, .call (.alone false false) 49 [.t 47]⟩,
    ⟨1, none, none, .again 46 (.load none (.t 45))⟩,
    ⟨4, some 49, none, .build [.int .i64 0, .int .i64 0, .int .i64 0, .int .i64 0, .nils, .nils, .int .i64 0, .bool false] [(0, 1, .c (.int .i64 (-1))), (2, 6, .t 48)]⟩,
    ⟨5, some 50, none, .litI 8 [.t 49]⟩,
    ⟨6, some 51, none, .app 8 96 (.t 46) (.t 50)⟩, xf 7 52 4 10,
    ⟨8, none, none, .store 1 (.t 52) (.t 51)⟩] [5, 8, 10, 39, 40, 41])))
  (.reg [⟨0, some 53, none, .bin .add (.t 41) (.c (.int .i64 1))⟩, xm 1 41 53] [5, 8, 10, 39, 40, 41]))))
def l_21_0 : AC := b_21_0
theorem u_21_0 {A : Nat → Option AFn} {mt : Nat → Nat → Option Nat} {fr : Fr} {G : AG} {S : List KF} : evS A mt l_21_0 fr G S = evS A mt b_21_0 fr G S := rfl
/-- impl.MoveIn -/
def c_21 : AFn := ⟨4, 62, [4, 5, 8, 12], [.c 8 (some 8), .t 9],
  (.seq (.reg [⟨0, some 4, none, .boxP (.t 0)⟩,
    ⟨1, some 5, none, .boxP (.t 1)⟩,
    ⟨2, some 8, none, .allocP [.int .i64 0, .nils, .nils, .int .i64 0, .nils, .int .i64 0, .nils, .int .i64 0]⟩,
    ⟨3, some 9, none, .mv (.c (.bool false))⟩] [2, 3, 4, 5, 8])
  (.seq (.seq (.reg [xL 0 13 1 4, xL 1 14 5 5,
    ⟨2, some 15, none, .call (.alone false true) 35 [.t 13, .t 14]⟩,
    ⟨3, some 16, none, .nt (.t 15)⟩, xm 4 17 16,
    ⟨5, some 18, some (17, false), .mv (.t 2)⟩,
    ⟨6, some 19, some (17, false), .mv (.t 3)⟩,
    ⟨7, some 20, some (17, false), .call (.alone false true) 46 [.t 18, .t 19]⟩,
    ⟨8, some 21, some (17, false), .nt (.t 20)⟩,
    ⟨9, some 22, none, .pick (.t 17) (.c (.bool true)) (.t 21)⟩] [2, 3, 5, 8, 22])
  (.cond (.t 22)
  (.seq (.reg [⟨0, some 23, none, .build [.int .i64 0, .nils, .nils, .int .i64 0, .nils, .int .i64 0, .nils, .int .i64 0] []⟩,
    ⟨1, none, none, .store 8 (.t 8) (.t 23)⟩,
    ⟨2, some 9, none, .mv (.c (.bool false))⟩] [8, 9])
  .ret)
  .skip))
  (.seq (.reg [xm 0 24 2, xm 1 25 3,
    ⟨2, some 26, none, .call (.alone false false) 47 [.t 24, .t 25]⟩,
    ⟨3, some 10, none, .allocH [.int .i64 0, .nils, .nils, .int .i64 0, .nils, .int .i64 0, .nils, .int .i64 0]⟩,
    ⟨4, none, none, .store 8 (.t 10) (.t 26)⟩] [5, 8, 10])
  (.seq (.reg [xf 0 27 2 5, xl 1 28 27, xf 2 29 3 5, xl 3 30 29, xf 5 32 4 5, xl 6 33 32,
    ⟨4, some 31, none, .call (.alone true false) 48 [.t 30]⟩,
    ⟨1, none, none, .again 28 (.load none (.t 27))⟩,
    ⟨6, none, none, .again 33 (.load none (.t 32))⟩, xf 7 34 5 10,
    ⟨8, none, none, .store 1 (.t 34) (.t 28)⟩,
    ⟨6, none, none, .again 33 (.load none (.t 32))⟩, xf 9 35 6 10,
    ⟨10, none, none, .store 1 (.t 35) (.t 31)⟩,
    ⟨6, none, none, .again 33 (.load none (.t 32))⟩, xf 11 36 7 10,
    ⟨12, none, none, .store 1 (.t 36) (.t 33)⟩, xf 13 37 3 10,
    ⟨14, none, none, .store 1 (.t 37) (.c (.int .i64 (-1)))⟩] [5, 8, 10])
  (.seq (.seq (.reg [xf 0 38 0 5, xl 1 39 38,
    ⟨2, some 40, none, .len (.t 39)⟩,
    ⟨3, some 41, none, .mv (.c (.int .i64 0))⟩] [5, 8, 10, 39, 40, 41])
  (.block 0
  (.loop l_21_0)))
  (.seq (.seq (.reg [xf 0 54 1 5, xl 1 55 54,
    ⟨2, some 56, none, .bin .geq (.t 55) (.c (.int .i64 0))⟩] [5, 8, 10, 56])
  (.cond (.t 56)
  (.seq (.reg [xf 0 57 1 5, xl 1 58 57,
    ⟨2, some 59, none, .call .whole 50 [.t 10, .t 58, .c (.int .i64 0)]⟩] [8, 10])
  (.reg [xf 0 60 3 10,
    ⟨1, none, none, .store 1 (.t 60) (.c (.int .i64 0))⟩] [8, 10]))
  .skip))
  (.seq (.reg [xL 0 61 8 10,
    ⟨1, none, none, .store 8 (.t 8) (.t 61)⟩,
    ⟨2, some 9, none, .mv (.c (.bool true))⟩] [8, 9])
  .ret)))))))⟩
/-- spec.DrawHeapMethods -/
def c_23 : AFn := ⟨1, 9, [2, 3], [.c 2 (some 1), .c 3 (some 5)],
  (.seq (.reg [⟨0, some 2, none, .allocP [.nils]⟩,
    ⟨1, some 3, none, .allocP [.nils, .int .i64 0, .int .i64 0, .nils, .int .i64 0]⟩] [0, 2, 3])
  (.seq (.reg [xm 0 4 0,
    ⟨1, some 5, none, .call .whole 45 [.t 4]⟩,
    ⟨2, some 6, none, .call .whole 44 [.t 5]⟩,
    ⟨3, some 7, none, .ext (.t 6) 0⟩,
    ⟨4, some 8, none, .ext (.t 6) 1⟩,
    ⟨5, none, none, .store 1 (.t 2) (.t 7)⟩,
    ⟨6, none, none, .store 5 (.t 3) (.t 8)⟩] [2, 3])
  .ret))⟩
def b_24_0 : AC := (.seq (.seq (.reg [xm 0 11 5, xm 1 12 0,
    ⟨2, some 13, none, .len (.t 12)⟩,
    ⟨3, some 14, none, .bin .lss (.t 11) (.t 13)⟩] [0, 1, 5, 14])
  (.cond (.t 14)
  .skip
  (.exit 0)))
  (.seq (.block 1
  (.seq (.reg [xm 0 17 0, xm 1 18 5, xi 2 19 1 17 18, xl 3 20 19, xm 4 21 1, xm 5 22 5, xi 6 23 1 21 22, xl 7 24 23,
    ⟨8, some 25, none, .bin .neq (.t 20) (.t 24)⟩] [0, 1, 5, 25])
  (.cond (.t 25)
  (.seq (.reg [⟨0, some 4, none, .mv (.c (.bool false))⟩] [4])
  .ret)
  .skip)))
  (.reg [xm 0 15 5,
    ⟨1, some 16, none, .bin .add (.t 15) (.c (.int .i64 1))⟩, xm 2 5 16] [0, 1, 5])))
def l_24_0 : AC := b_24_0
theorem u_24_0 {A : Nat → Option AFn} {mt : Nat → Nat → Option Nat} {fr : Fr} {G : AG} {S : List KF} : evS A mt l_24_0 fr G S = evS A mt b_24_0 fr G S := rfl
/-- laws.lmInts -/
def c_24 : AFn := ⟨2, 26, [], [.t 4],
  (.seq (.reg [⟨0, some 4, none, .mv (.c (.bool false))⟩] [0, 1])
  (.seq (.seq (.reg [xm 0 6 0,
    ⟨1, some 7, none, .len (.t 6)⟩, xm 2 8 1,
    ⟨3, some 9, none, .len (.t 8)⟩,
    ⟨4, some 10, none, .bin .neq (.t 7) (.t 9)⟩] [0, 1, 10])
  (.cond (.t 10)
  (.seq (.reg [⟨0, some 4, none, .mv (.c (.bool false))⟩] [4])
  .ret)
  .skip))
  (.seq (.seq (.reg [⟨0, some 5, none, .mv (.c (.int .i64 0))⟩] [0, 1, 5])
  (.block 0
  (.loop l_24_0)))
  (.seq (.reg [⟨0, some 4, none, .mv (.c (.bool true))⟩] [4])
  .ret))))⟩
def b_25_0 : AC := (.seq (.seq (.reg [xm 0 56 7, xm 1 57 5,
    ⟨2, some 58, none, .bin .lss (.t 56) (.t 57)⟩] [2, 3, 5, 6, 7, 58])
  (.cond (.t 58)
  .skip
  (.exit 0)))
  (.seq (.block 1
  (.seq (.seq (.reg [xL 0 61 1 2, xf 1 62 0 3, xl 2 63 62, xm 3 64 7, xi 4 65 6 63 64, xL 5 66 6 65, xm 6 67 5,
    ⟨7, some 68, none, .call (.alone false true) 57 [.t 61, .t 66, .t 67]⟩,
    ⟨8, some 69, none, .nt (.t 68)⟩] [2, 3, 5, 6, 7, 69])
  (.cond (.t 69)
  (.seq (.reg [⟨0, some 4, none, .mv (.c (.bool false))⟩] [4])
  .ret)
  .skip))
  (.seq (.reg [xf 0 70 0 3, xl 1 71 70, xm 2 72 7, xi 3 73 6 71 72, xf 4 74 5 73, xl 5 75 74,
    ⟨6, some 76, none, .nt (.t 75)⟩] [2, 3, 5, 6, 7, 76])
  (.cond (.t 76)
  (.reg [xm 0 77 6,
    ⟨1, some 78, none, .bin .add (.t 77) (.c (.int .i64 1))⟩, xm 2 6 78] [2, 3, 5, 6, 7])
  .skip))))
  (.reg [xm 0 59 7,
    ⟨1, some 60, none, .bin .add (.t 59) (.c (.int .i64 1))⟩, xm 2 7 60] [2, 3, 5, 6, 7])))
def l_25_0 : AC := b_25_0
theorem u_25_0 {A : Nat → Option AFn} {mt : Nat → Nat → Option Nat} {fr : Fr} {G : AG} {S : List KF} : evS A mt l_25_0 fr G S = evS A mt b_25_0 fr G S := rfl
/-- spec.HeapOk -/
def c_25 : AFn := ⟨2, 103, [2, 3], [.t 4],
  (.seq (.reg [⟨0, some 2, none, .boxP (.t 0)⟩,
    ⟨1, some 3, none, .boxP (.t 1)⟩,
    ⟨2, some 4, none, .mv (.c (.bool false))⟩] [2, 3])
  (.seq (.reg [xf 0 8 0 3, xl 1 9 8,
    ⟨2, some 10, none, .len (.t 9)⟩, xm 3 5 10] [2, 3, 5])
  (.seq (.seq (.reg [xL 0 11 1 2,
    ⟨1, some 12, none, .call (.alone false true) 54 [.t 11]⟩,
    ⟨2, some 13, none, .nt (.t 12)⟩, xm 3 14 13,
    ⟨4, some 15, some (14, false), .fld 1 (.t 3)⟩,
    ⟨5, some 16, some (14, false), .load none (.t 15)⟩,
    ⟨6, some 17, some (14, false), .mv (.t 5)⟩,
    ⟨7, some 18, some (14, false), .bin .sub (.t 17) (.c (.int .i64 1))⟩,
    ⟨8, some 19, some (14, false), .call (.alone false true) 55 [.t 16, .c (.int .i64 (-1)), .t 18]⟩,
    ⟨9, some 20, some (14, false), .nt (.t 19)⟩,
    ⟨10, some 21, none, .pick (.t 14) (.c (.bool true)) (.t 20)⟩, xm 11 22 21,
    ⟨12, some 23, some (22, false), .fld 2 (.t 3)⟩,
    ⟨13, some 24, some (22, false), .load none (.t 23)⟩,
    ⟨14, some 25, some (22, false), .call (.alone false true) 55 [.t 24, .c (.int .i64 1), .c (.int .i64 30)]⟩,
    ⟨15, some 26, some (22, false), .nt (.t 25)⟩,
    ⟨16, some 27, none, .pick (.t 22) (.c (.bool true)) (.t 26)⟩, xm 17 28 27,
    ⟨18, some 29, some (28, false), .mv (.t 5)⟩,
    ⟨19, some 30, some (28, false), .fld 2 (.t 3)⟩,
    ⟨20, some 31, some (28, false), .load none (.t 30)⟩,
    ⟨21, some 32, some (28, false), .bin .gtr (.t 29) (.t 31)⟩,
    ⟨22, some 33, none, .pick (.t 28) (.c (.bool true)) (.t 32)⟩, xm 23 34 33,
    ⟨24, some 35, some (34, false), .fld 4 (.t 3)⟩,
    ⟨25, some 36, some (34, false), .load none (.t 35)⟩,
    ⟨26, some 37, some (34, false), .call (.alone false true) 55 [.t 36, .c (.int .i64 0), .c (.int .i64 3)]⟩,
    ⟨27, some 38, some (34, false), .nt (.t 37)⟩,
    ⟨28, some 39, none, .pick (.t 34) (.c (.bool true)) (.t 38)⟩, xm 29 40 39,
    ⟨30, some 41, some (40, false), .load (some 1) (.t 2)⟩,
    ⟨31, some 42, some (40, false), .fld 3 (.t 3)⟩,
    ⟨32, some 43, some (40, false), .load none (.t 42)⟩,
    ⟨33, some 44, some (40, false), .call (.alone false true) 56 [.t 41, .t 43]⟩,
    ⟨34, some 45, some (40, false), .nt (.t 44)⟩,
    ⟨35, some 46, none, .pick (.t 40) (.c (.bool true)) (.t 45)⟩, xm 36 47 46,
    ⟨37, some 48, some (47, false), .fld 4 (.t 3)⟩,
    ⟨38, some 49, some (47, false), .load none (.t 48)⟩,
    ⟨39, some 50, some (47, false), .bin .eql (.t 49) (.c (.int .i64 1))⟩,
    ⟨40, some 51, some (47, false), .fld 1 (.t 3)⟩,
    ⟨41, some 52, some (47, false), .load none (.t 51)⟩,
    ⟨42, some 53, some (47, false), .bin .lss (.t 52) (.c (.int .i64 0))⟩,
    ⟨43, some 54, some (47, false), .eqk .b true (.t 50) (.t 53)⟩,
    ⟨44, some 55, none, .pick (.t 47) (.c (.bool true)) (.t 54)⟩] [2, 3, 5, 55])
  (.cond (.t 55)
  (.seq (.reg [⟨0, some 4, none, .mv (.c (.bool false))⟩] [4])
  .ret)
  .skip))
  (.seq (.reg [⟨0, some 6, none, .mv (.c (.int .i64 0))⟩] [2, 3, 5, 6])
  (.seq (.seq (.reg [⟨0, some 7, none, .mv (.c (.int .i64 0))⟩] [2, 3, 5, 6, 7])
  (.block 0
  (.loop l_25_0)))
  (.seq (.reg [xf 0 79 1 3, xl 1 80 79,
    ⟨2, some 81, none, .bin .lss (.t 80) (.c (.int .i64 0))⟩, xm 3 82 81,
    ⟨4, some 83, some (82, false), .fld 0 (.t 3)⟩,
    ⟨5, some 84, some (82, false), .load none (.t 83)⟩,
    ⟨6, some 85, some (82, false), .fld 1 (.t 3)⟩,
    ⟨7, some 86, some (82, false), .load none (.t 85)⟩,
    ⟨8, some 87, some (82, false), .idx 6 (.t 84) (.t 86)⟩,
    ⟨9, some 88, some (82, false), .fld 5 (.t 87)⟩,
    ⟨10, some 89, some (82, false), .load none (.t 88)⟩,
    ⟨11, some 90, some (82, false), .nt (.t 89)⟩,
    ⟨12, some 91, none, .pick (.t 82) (.c (.bool true)) (.t 90)⟩, xm 13 92 91,
    ⟨14, some 93, some (92, true), .load (some 5) (.t 3)⟩,
    ⟨15, some 94, some (92, true), .call (.alone false true) 40 [.t 93]⟩,
    ⟨16, some 95, some (92, true), .len (.t 94)⟩,
    ⟨17, some 96, some (92, true), .mv (.t 6)⟩,
    ⟨18, some 97, some (92, true), .bin .eql (.t 95) (.t 96)⟩,
    ⟨19, some 98, none, .pick (.t 92) (.t 97) (.c (.bool false))⟩, xm 20 99 98,
    ⟨21, some 100, some (99, true), .load (some 5) (.t 3)⟩,
    ⟨22, some 101, some (99, true), .call (.alone false true) 58 [.t 100]⟩,
    ⟨23, some 102, none, .pick (.t 99) (.t 101) (.c (.bool false))⟩, xm 24 4 102] [4])
  .ret))))))⟩
def b_26_0 : AC := (.seq (.seq (.reg [xm 0 7 4,
    ⟨1, some 8, none, .bin .geq (.t 7) (.c (.int .i64 0))⟩] [1, 3, 4, 8])
  (.cond (.t 8)
  .skip
  (.exit 0)))
  (.seq (.block 1
  (.seq (.reg [xm 0 15 3,
    ⟨1, some 16, none, .bin .add (.t 15) (.c (.int .i64 1))⟩, xm 2 3 16] [1, 3, 4])
  (.seq (.reg [xm 0 17 4, xf 1 18 0 1, xl 2 19 18,
    ⟨3, some 20, none, .len (.t 19)⟩,
    ⟨4, some 21, none, .bin .geq (.t 17) (.t 20)⟩, xm 5 22 21,
    ⟨6, some 23, some (22, false), .mv (.t 3)⟩,
    ⟨7, some 24, some (22, false), .fld 0 (.t 1)⟩,
    ⟨8, some 25, some (22, false), .load none (.t 24)⟩,
    ⟨9, some 26, some (22, false), .len (.t 25)⟩,
    ⟨10, some 27, some (22, false), .bin .gtr (.t 23) (.t 26)⟩,
    ⟨11, some 28, none, .pick (.t 22) (.c (.bool true)) (.t 27)⟩, xm 12 29 28,
    ⟨13, some 30, some (29, false), .fld 0 (.t 1)⟩,
    ⟨14, some 31, some (29, false), .load none (.t 30)⟩,
    ⟨15, some 32, some (29, false), .mv (.t 4)⟩,
    ⟨16, some 33, some (29, false), .idx 6 (.t 31) (.t 32)⟩,
    ⟨17, some 34, some (29, false), .fld 5 (.t 33)⟩,
    ⟨18, some 35, some (29, false), .load none (.t 34)⟩,
    ⟨19, some 36, none, .pick (.t 29) (.c (.bool true)) (.t 35)⟩] [1, 3, 4, 36])
  (.cond (.t 36)
  (.seq (.reg [⟨0, some 2, none, .mv (.c (.int .i64 0))⟩] [2])
  .ret)
  .skip))))
  (.reg [xf 0 9 0 1, xl 1 10 9, xm 2 11 4, xi 3 12 6 10 11, xf 4 13 4 12, xl 5 14 13, xm 6 4 14] [1, 3, 4])))
def l_26_0 : AC := b_26_0
theorem u_26_0 {A : Nat → Option AFn} {mt : Nat → Nat → Option Nat} {fr : Fr} {G : AG} {S : List KF} : evS A mt l_26_0 fr G S = evS A mt b_26_0 fr G S := rfl
/-- impl.HeapDeep -/
def c_26 : AFn := ⟨1, 38, [1], [.t 2],
  (.seq (.reg [⟨0, some 1, none, .boxP (.t 0)⟩,
    ⟨1, some 2, none, .mv (.c (.int .i64 0))⟩] [1])
  (.seq (.reg [⟨0, some 3, none, .mv (.c (.int .i64 0))⟩] [1, 3])
  (.seq (.seq (.reg [xf 0 5 1 1, xl 1 6 5, xm 2 4 6] [1, 3, 4])
  (.block 0
  (.loop l_26_0)))
  (.seq (.reg [xm 0 37 3, xm 1 2 37] [2])
  .ret))))⟩
def b_27_0 : AC := (.seq (.seq (.reg [xm 0 17 7] [3, 5, 6, 17])
  (.cond (.t 17)
  .skip
  (.exit 0)))
  (.block 1
  (.seq (.reg [xm 0 18 5, xL 1 19 8 3, xL 2 20 2 6,
    ⟨3, some 21, none, .call (.alone false true) 53 [.t 19, .t 20]⟩,
    ⟨4, some 22, none, .fieldv 0 none (.t 21)⟩,
    ⟨5, some 23, none, .litI 1 [.t 22]⟩,
    ⟨6, some 24, none, .app 1 8 (.t 18) (.t 23)⟩, xm 7 5 24] [3, 5, 6])
  (.reg [xL 0 26 8 3, xL 1 27 2 6,
    ⟨2, some 28, none, .call (.alone false true) 59 [.t 26, .t 27]⟩, xm 3 25 28,
    ⟨4, some 29, none, .ext (.t 25) 0⟩,
    ⟨5, some 30, none, .ext (.t 25) 1⟩,
    ⟨6, some 31, none, .ext (.t 25) 2⟩,
    ⟨7, none, none, .store 2 (.t 6) (.t 29)⟩, xm 8 7 30] [3, 5, 6, 7]))))
def l_27_0 : AC := b_27_0
theorem u_27_0 {A : Nat → Option AFn} {mt : Nat → Nat → Option Nat} {fr : Fr} {G : AG} {S : List KF} : evS A mt l_27_0 fr G S = evS A mt b_27_0 fr G S := rfl
/-- impl.MachMethods -/
def c_27 : AFn := ⟨2, 33, [2, 3, 6], [.t 4],
  (.seq (.reg [⟨0, some 2, none, .boxP (.t 0)⟩,
    ⟨1, some 3, none, .boxP (.t 1)⟩,
    ⟨2, some 4, none, .mv (.c (.nils))⟩] [2, 3])
  (.seq (.seq (.reg [xL 0 8 1 2, xL 1 9 8 3,
    ⟨2, some 10, none, .call (.alone false true) 51 [.t 8, .t 9]⟩,
    ⟨3, some 11, none, .nt (.t 10)⟩] [3, 11])
  (.cond (.t 11)
  (.seq (.reg [⟨0, some 4, none, .mv (.c (.nils))⟩] [4])
  .ret)
  .skip))
  (.seq (.reg [⟨0, some 5, none, .mv (.c (.nils))⟩] [3, 5])
  (.seq (.reg [xL 0 13 8 3,
    ⟨1, some 14, none, .call (.alone false true) 52 [.t 13]⟩, xm 2 12 14,
    ⟨3, some 15, none, .ext (.t 12) 0⟩,
    ⟨4, some 16, none, .ext (.t 12) 1⟩,
    ⟨5, some 6, none, .allocP [.int .i64 0, .int .i64 0]⟩,
    ⟨6, none, none, .store 2 (.t 6) (.t 15)⟩, xm 7 7 16] [3, 5, 6, 7])
  (.seq (.block 0
  (.loop l_27_0))
  (.seq (.reg [xm 0 32 5, xm 1 4 32] [4])
  .ret))))))⟩
def b_35_0 : AC := (.seq (.reg [⟨0, some 49, none, .bin .lss (.t 48) (.t 47)⟩] [2, 3, 5, 46, 47, 48, 49])
  (.seq (.cond (.t 49)
  .skip
  (.exit 0))
  (.seq (.block 1
  (.seq (.reg [xi 0 50 6 46 48, xL 1 51 6 50,
    ⟨2, some 7, none, .allocP [.int .i64 0, .int .i64 0, .nils, .nils, .int .i64 0, .bool false]⟩,
    ⟨3, none, none, .store 6 (.t 7) (.t 51)⟩] [2, 3, 5, 7, 46, 47, 48])
  (.seq (.seq (.reg [xL 0 52 6 7, xL 1 53 1 2, xf 2 54 0 3, xl 3 55 54,
    ⟨4, some 56, none, .len (.t 55)⟩,
    ⟨5, some 57, none, .call (.alone false true) 68 [.t 52, .t 53, .t 56]⟩,
    ⟨6, some 58, none, .nt (.t 57)⟩] [2, 3, 5, 7, 46, 47, 48, 58])
  (.cond (.t 58)
  (.seq (.reg [⟨0, some 4, none, .mv (.c (.bool false))⟩] [4])
  .ret)
  .skip))
  (.seq (.reg [xf 0 59 5 7, xl 1 60 59,
    ⟨2, some 61, none, .nt (.t 60)⟩] [2, 3, 5, 46, 47, 48, 61])
  (.cond (.t 61)
  (.reg [xm 0 62 5,
    ⟨1, some 63, none, .bin .add (.t 62) (.c (.int .i64 1))⟩, xm 2 5 63] [2, 3, 5, 46, 47, 48])
  .skip)))))
  (.reg [⟨0, some 64, none, .bin .add (.t 48) (.c (.int .i64 1))⟩, xm 1 48 64] [2, 3, 5, 46, 47, 48]))))
def l_35_0 : AC := b_35_0
theorem u_35_0 {A : Nat → Option AFn} {mt : Nat → Nat → Option Nat} {fr : Fr} {G : AG} {S : List KF} : evS A mt l_35_0 fr G S = evS A mt b_35_0 fr G S := rfl
def b_35_1 : AC := (.seq (.seq (.reg [xm 0 67 8,
    ⟨1, some 68, none, .bin .geq (.t 67) (.c (.int .i64 0))⟩] [3, 5, 8, 68])
  (.cond (.t 68)
  .skip
  (.exit 2)))
  (.seq (.block 3
  (.seq (.reg [xf 0 75 0 3, xl 1 76 75, xm 2 77 8, xi 3 78 6 76 77, xL 4 79 6 78,
    ⟨5, some 9, none, .allocP [.int .i64 0, .int .i64 0, .nils, .nils, .int .i64 0, .bool false]⟩,
    ⟨6, none, none, .store 6 (.t 9) (.t 79)⟩] [3, 5, 8, 9])
  (.seq (.reg [xm 0 80 5,
    ⟨1, some 81, none, .bin .sub (.t 80) (.c (.int .i64 1))⟩, xm 2 5 81] [3, 5, 8, 9])
  (.seq (.reg [xm 0 82 5,
    ⟨1, some 83, none, .bin .lss (.t 82) (.c (.int .i64 0))⟩, xm 2 84 83,
    ⟨3, some 85, some (84, false), .fld 5 (.t 9)⟩,
    ⟨4, some 86, some (84, false), .load none (.t 85)⟩,
    ⟨5, some 87, none, .pick (.t 84) (.c (.bool true)) (.t 86)⟩, xm 6 88 87,
    ⟨7, some 89, some (88, false), .mv (.t 8)⟩,
    ⟨8, some 90, some (88, false), .fld 1 (.t 3)⟩,
    ⟨9, some 91, some (88, false), .load none (.t 90)⟩,
    ⟨10, some 92, some (88, false), .bin .neq (.t 89) (.t 91)⟩,
    ⟨11, some 93, some (88, false), .mv (.t 92)⟩,
    ⟨12, some 94, some (93, true), .fld 3 (.t 9)⟩,
    ⟨13, some 95, some (93, true), .load none (.t 94)⟩,
    ⟨14, some 96, some (93, true), .len (.t 95)⟩,
    ⟨15, some 97, some (93, true), .bin .eql (.t 96) (.c (.int .i64 6))⟩,
    ⟨16, some 98, some (88, false), .pick (.t 93) (.t 97) (.c (.bool false))⟩,
    ⟨17, some 99, none, .pick (.t 88) (.c (.bool true)) (.t 98)⟩] [3, 5, 8, 99])
  (.cond (.t 99)
  (.seq (.reg [⟨0, some 4, none, .mv (.c (.bool false))⟩] [4])
  .ret)
  .skip)))))
  (.reg [xf 0 69 0 3, xl 1 70 69, xm 2 71 8, xi 3 72 6 70 71, xf 4 73 4 72, xl 5 74 73, xm 6 8 74] [3, 5, 8])))
def l_35_1 : AC := b_35_1
theorem u_35_1 {A : Nat → Option AFn} {mt : Nat → Nat → Option Nat} {fr : Fr} {G : AG} {S : List KF} : evS A mt l_35_1 fr G S = evS A mt b_35_1 fr G S := rfl
/-- impl.HeapOk -/
def c_35 : AFn := ⟨2, 102, [2, 3, 7, 9], [.t 4],
  (.seq (.reg [⟨0, some 2, none, .boxP (.t 0)⟩,
    ⟨1, some 3, none, .boxP (.t 1)⟩,
    ⟨2, some 4, none, .mv (.c (.bool false))⟩] [2, 3])
  (.seq (.seq (.reg [xL 0 10 1 2,
    ⟨1, some 11, none, .call (.alone false true) 65 [.t 10]⟩,
    ⟨2, some 12, none, .nt (.t 11)⟩, xm 3 13 12,
    ⟨4, some 14, some (13, false), .fld 1 (.t 3)⟩,
    ⟨5, some 15, some (13, false), .load none (.t 14)⟩,
    ⟨6, some 16, some (13, false), .fld 0 (.t 3)⟩,
    ⟨7, some 17, some (13, false), .load none (.t 16)⟩,
    ⟨8, some 18, some (13, false), .len (.t 17)⟩,
    ⟨9, some 19, some (13, false), .bin .sub (.t 18) (.c (.int .i64 1))⟩,
    ⟨10, some 20, some (13, false), .call (.alone false true) 66 [.t 15, .c (.int .i64 (-1)), .t 19]⟩,
    ⟨11, some 21, some (13, false), .nt (.t 20)⟩,
    ⟨12, some 22, none, .pick (.t 13) (.c (.bool true)) (.t 21)⟩, xm 13 23 22,
    ⟨14, some 24, some (23, false), .load (some 1) (.t 2)⟩,
    ⟨15, some 25, some (23, false), .fld 2 (.t 3)⟩,
    ⟨16, some 26, some (23, false), .load none (.t 25)⟩,
    ⟨17, some 27, some (23, false), .fld 3 (.t 3)⟩,
    ⟨18, some 28, some (23, false), .load none (.t 27)⟩,
    ⟨19, some 29, some (23, false), .fld 4 (.t 3)⟩,
    ⟨20, some 30, some (23, false), .load none (.t 29)⟩,
    ⟨21, some 31, some (23, false), .fld 1 (.t 3)⟩,
    ⟨22, some 32, some (23, false), .load none (.t 31)⟩,
    ⟨23, some 33, some (23, false), .bin .eql (.t 32) (.c (.int .i64 (-1)))⟩,
    ⟨24, some 34, some (23, false), .call (.alone false true) 67 [.t 24, .t 26, .t 28, .t 30, .t 33]⟩,
    ⟨25, some 35, some (23, false), .nt (.t 34)⟩,
    ⟨26, some 36, none, .pick (.t 23) (.c (.bool true)) (.t 35)⟩, xm 27 37 36,
    ⟨28, some 38, some (37, false), .fld 0 (.t 3)⟩,
    ⟨29, some 39, some (37, false), .load none (.t 38)⟩,
    ⟨30, some 40, some (37, false), .len (.t 39)⟩,
    ⟨31, some 41, some (37, false), .fld 2 (.t 3)⟩,
    ⟨32, some 42, some (37, false), .load none (.t 41)⟩,
    ⟨33, some 43, some (37, false), .bin .gtr (.t 40) (.t 42)⟩,
    ⟨34, some 44, none, .pick (.t 37) (.c (.bool true)) (.t 43)⟩] [2, 3, 44])
  (.cond (.t 44)
  (.seq (.reg [⟨0, some 4, none, .mv (.c (.bool false))⟩] [4])
  .ret)
  .skip))
  (.seq (.reg [⟨0, some 5, none, .mv (.c (.int .i64 0))⟩] [2, 3, 5])
  (.seq (.seq (.reg [xf 0 45 0 3, xl 1 46 45,
    ⟨2, some 47, none, .len (.t 46)⟩,
    ⟨3, some 48, none, .mv (.c (.int .i64 0))⟩] [2, 3, 5, 46, 47, 48])
  (.block 0
  (.loop l_35_0)))
  (.seq (.seq (.reg [xf 0 65 1 3, xl 1 66 65, xm 2 8 66] [3, 5, 8])
  (.block 2
  (.loop l_35_1)))
  (.seq (.reg [xm 0 100 5,
    ⟨1, some 101, none, .bin .eql (.t 100) (.c (.int .i64 0))⟩, xm 2 4 101] [4])
  .ret))))))⟩
def b_40_0 : AC := (.seq (.seq (.reg [xm 0 8 4,
    ⟨1, some 9, none, .bin .geq (.t 8) (.c (.int .i64 0))⟩] [1, 3, 4, 9])
  (.cond (.t 9)
  .skip
  (.exit 0)))
  (.seq (.block 1
  (.seq (.seq (.reg [xm 0 16 3,
    ⟨1, some 17, none, .len (.t 16)⟩, xf 2 18 0 1, xl 3 19 18,
    ⟨4, some 20, none, .len (.t 19)⟩,
    ⟨5, some 21, none, .bin .geq (.t 17) (.t 20)⟩, xm 6 22 21,
    ⟨7, some 23, some (22, false), .mv (.t 4)⟩,
    ⟨8, some 24, some (22, false), .fld 0 (.t 1)⟩,
    ⟨9, some 25, some (22, false), .load none (.t 24)⟩,
    ⟨10, some 26, some (22, false), .len (.t 25)⟩,
    ⟨11, some 27, some (22, false), .bin .geq (.t 23) (.t 26)⟩,
    ⟨12, some 28, none, .pick (.t 22) (.c (.bool true)) (.t 27)⟩, xm 13 29 28,
    ⟨14, some 30, some (29, false), .fld 0 (.t 1)⟩,
    ⟨15, some 31, some (29, false), .load none (.t 30)⟩,
    ⟨16, some 32, some (29, false), .mv (.t 4)⟩,
    ⟨17, some 33, some (29, false), .idx 6 (.t 31) (.t 32)⟩,
    ⟨18, some 34, some (29, false), .fld 5 (.t 33)⟩,
    ⟨19, some 35, some (29, false), .load none (.t 34)⟩,
    ⟨20, some 36, none, .pick (.t 29) (.c (.bool true)) (.t 35)⟩] [1, 3, 4, 36])
  (.cond (.t 36)
  (.seq (.reg [⟨0, some 37, none, .litO 1 []⟩, xm 1 2 37] [2])
  .ret)
  .skip))
  (.reg [xm 0 38 3, xm 1 39 4,
    ⟨2, some 40, none, .litI 1 [.t 39]⟩,
    ⟨3, some 41, none, .app 1 8 (.t 38) (.t 40)⟩, xm 4 3 41] [1, 3, 4])))
  (.reg [xf 0 10 0 1, xl 1 11 10, xm 2 12 4, xi 3 13 6 11 12, xf 4 14 4 13, xl 5 15 14, xm 6 4 15] [1, 3, 4])))
def l_40_0 : AC := b_40_0
theorem u_40_0 {A : Nat → Option AFn} {mt : Nat → Nat → Option Nat} {fr : Fr} {G : AG} {S : List KF} : evS A mt l_40_0 fr G S = evS A mt b_40_0 fr G S := rfl
/-- spec.l11Chain -/
def c_40 : AFn := ⟨1, 43, [1], [.t 2],
  (.seq (.reg [⟨0, some 1, none, .boxP (.t 0)⟩,
    ⟨1, some 2, none, .mv (.c (.nils))⟩] [1])
  (.seq (.reg [⟨0, some 5, none, .litO 1 []⟩, xm 1 3 5] [1, 3])
  (.seq (.seq (.reg [xf 0 6 1 1, xl 1 7 6, xm 2 4 7] [1, 3, 4])
  (.block 0
  (.loop l_40_0)))
  (.seq (.reg [xm 0 42 3, xm 1 2 42] [2])
  .ret))))⟩
/-- spec.l71Heap -/
def c_44 : AFn := ⟨1, 103, [2, 3, 4, 5], [.c 2 (some 1), .c 3 (some 5)],
  (.seq (.reg [⟨0, some 2, none, .allocP [.nils]⟩,
    ⟨1, some 3, none, .allocP [.nils, .int .i64 0, .int .i64 0, .nils, .int .i64 0]⟩] [0, 2, 3])
  (.seq (.reg [xm 0 7 0,
    ⟨1, some 8, none, .call .whole 73 [.t 7]⟩,
    ⟨2, some 4, none, .allocP [.nils]⟩,
    ⟨3, none, none, .store 1 (.t 4) (.t 8)⟩] [0, 2, 3, 4])
  (.seq (.reg [xL 0 10 1 4,
    ⟨1, some 11, none, .call (.alone false true) 74 [.t 10]⟩, xm 2 9 11,
    ⟨3, some 12, none, .ext (.t 9) 0⟩,
    ⟨4, some 13, none, .ext (.t 9) 1⟩,
    ⟨5, some 5, none, .allocP [.nils, .int .i64 0, .int .i64 0, .nils, .int .i64 0]⟩,
    ⟨6, none, none, .store 5 (.t 5) (.t 12)⟩, xm 7 6 13] [0, 2, 3, 4, 5])
  (.seq (.reg [xL 0 15 1 4, xL 1 16 5 5, xm 2 17 0,
    ⟨3, some 18, none, .call .whole 76 [.t 17, .c (.int .i64 90)]⟩,
    ⟨0, none, none, .again 15 (.load (some 1) (.t 4))⟩,
    ⟨1, none, none, .again 16 (.load (some 5) (.t 5))⟩,
    ⟨4, some 19, none, .call (.alone false false) 75 [.t 15, .t 16, .t 18]⟩, xm 5 14 19,
    ⟨6, some 20, none, .ext (.t 14) 0⟩,
    ⟨7, some 21, none, .ext (.t 14) 1⟩,
    ⟨8, none, none, .store 5 (.t 5) (.t 20)⟩] [0, 2, 3, 4, 5])
  (.seq (.seq (.reg [xm 0 22 0,
    ⟨1, some 23, none, .call .whole 76 [.t 22, .c (.int .i64 14)]⟩,
    ⟨2, some 24, none, .bin .gtr (.t 23) (.c (.int .i64 0))⟩] [0, 2, 3, 4, 5, 24])
  (.cond (.t 24)
  (.seq (.reg [xL 0 25 1 4, xL 1 26 5 5,
    ⟨2, none, none, .store 1 (.t 2) (.t 25)⟩,
    ⟨1, none, none, .again 26 (.load (some 5) (.t 5))⟩,
    ⟨3, none, none, .store 5 (.t 3) (.t 26)⟩] [2, 3])
  .ret)
  .skip))
  (.seq (.seq (.reg [xm 0 27 0,
    ⟨1, some 28, none, .call .whole 76 [.t 27, .c (.int .i64 8)]⟩] [0, 2, 3, 4, 5, 28])
  (.block 0
  (.seq (.reg [⟨0, some 34, none, .bin .eql (.t 28) (.c (.int .i64 0))⟩, xm 1 33 34] [0, 2, 3, 4, 5, 28, 33])
  (.cond (.t 33)
  (.reg [xm 0 35 0, xf 1 36 0 5, xl 2 37 36,
    ⟨3, some 38, none, .len (.t 37)⟩,
    ⟨4, some 39, none, .bin .add (.t 38) (.c (.int .i64 2))⟩,
    ⟨5, some 40, none, .call .whole 76 [.t 35, .t 39]⟩,
    ⟨6, some 41, none, .bin .sub (.t 40) (.c (.int .i64 1))⟩, xf 7 42 1 5,
    ⟨8, none, none, .store 1 (.t 42) (.t 41)⟩] [2, 3, 4, 5])
  (.seq (.reg [⟨0, some 44, none, .bin .eql (.t 28) (.c (.int .i64 1))⟩, xm 1 43 44] [0, 2, 3, 4, 5, 28, 43])
  (.cond (.t 43)
  (.reg [⟨0, some 45, none, .litI 1 [.c (.int .i64 0), .c (.int .i64 31)]⟩, xm 1 46 0,
    ⟨2, some 47, none, .call .whole 76 [.t 46, .c (.int .i64 2)]⟩, xi 3 48 1 45 47, xl 4 49 48, xf 5 50 2 5,
    ⟨6, none, none, .store 1 (.t 50) (.t 49)⟩] [2, 3, 4, 5])
  (.seq (.reg [⟨0, some 52, none, .bin .eql (.t 28) (.c (.int .i64 2))⟩, xm 1 51 52] [0, 2, 3, 4, 5, 28, 51])
  (.cond (.t 51)
  (.reg [xm 0 53 0,
    ⟨1, some 54, none, .call .whole 76 [.t 53, .c (.int .i64 6)]⟩,
    ⟨2, some 55, none, .bin .sub (.t 54) (.c (.int .i64 1))⟩, xf 3 56 4 5,
    ⟨4, none, none, .store 1 (.t 56) (.t 55)⟩] [2, 3, 4, 5])
  (.seq (.reg [⟨0, some 58, none, .bin .eql (.t 28) (.c (.int .i64 3))⟩, xm 1 57 58] [2, 3, 4, 5, 28, 57])
  (.cond (.t 57)
  (.reg [xf 0 59 0 5, xl 1 60 59, xf 2 61 0 5, xl 3 62 61,
    ⟨4, some 63, none, .idx 6 (.t 62) (.c (.int .i64 0))⟩, xf 5 64 5 63, xl 6 65 64,
    ⟨7, some 66, none, .nt (.t 65)⟩,
    ⟨8, some 67, none, .idx 6 (.t 60) (.c (.int .i64 0))⟩, xf 9 68 5 67,
    ⟨10, none, none, .store 1 (.t 68) (.t 66)⟩] [2, 3, 4, 5])
  (.seq (.reg [⟨0, some 70, none, .bin .eql (.t 28) (.c (.int .i64 4))⟩, xm 1 69 70] [2, 3, 4, 5, 28, 69])
  (.cond (.t 69)
  (.reg [xf 0 71 0 5, xl 1 72 71, xf 2 73 0 5, xl 3 74 73,
    ⟨4, some 75, none, .idx 6 (.t 74) (.c (.int .i64 0))⟩, xf 5 76 2 75, xl 6 77 76,
    ⟨7, some 78, none, .build [.int .i64 0, .int .i64 0] []⟩,
    ⟨8, some 79, none, .litI 2 [.t 78]⟩,
    ⟨9, some 80, none, .app 2 16 (.t 77) (.t 79)⟩,
    ⟨1, none, none, .again 72 (.load none (.t 71))⟩,
    ⟨10, some 81, none, .idx 6 (.t 72) (.c (.int .i64 0))⟩, xf 11 82 2 81,
    ⟨12, none, none, .store 1 (.t 82) (.t 80)⟩] [2, 3, 4, 5])
  (.seq (.reg [⟨0, some 84, none, .bin .eql (.t 28) (.c (.int .i64 5))⟩, xm 1 83 84] [2, 3, 4, 5, 28, 83])
  (.cond (.t 83)
  (.reg [xf 0 85 0 5, xl 1 86 85, xf 2 87 0 5, xl 3 88 87,
    ⟨4, some 89, none, .len (.t 88)⟩,
    ⟨5, some 90, none, .bin .sub (.t 89) (.c (.int .i64 1))⟩,
    ⟨6, some 91, none, .idx 6 (.t 86) (.c (.int .i64 0))⟩, xf 7 92 4 91,
    ⟨8, none, none, .store 1 (.t 92) (.t 90)⟩] [2, 3, 4, 5])
  (.seq (.reg [⟨0, some 94, none, .bin .eql (.t 28) (.c (.int .i64 6))⟩, xm 1 93 94] [2, 3, 4, 5, 93])
  (.cond (.t 93)
  (.reg [xf 0 95 3 5, xl 1 96 95,
    ⟨2, some 97, none, .build [.int .i64 0, .int .i64 0] [(0, 1, .c (.int .i64 2)), (1, 1, .c (.int .i64 9))]⟩,
    ⟨3, some 98, none, .litI 2 [.t 97]⟩,
    ⟨4, some 99, none, .app 2 16 (.t 96) (.t 98)⟩, xf 5 100 3 5,
    ⟨6, none, none, .store 1 (.t 100) (.t 99)⟩] [2, 3, 4, 5])
  (.reg [xf 0 29 0 5, xl 1 30 29,
    ⟨2, some 31, none, .sl 6 (.t 30) (some (.c (.int .i64 1))) none⟩, xf 3 32 0 5,
    ⟨4, none, none, .store 1 (.t 32) (.t 31)⟩] [2, 3, 4, 5])))))))))))))))))
  (.seq (.reg [xL 0 101 1 4, xL 1 102 5 5,
    ⟨2, none, none, .store 1 (.t 2) (.t 101)⟩,
    ⟨1, none, none, .again 102 (.load (some 5) (.t 5))⟩,
    ⟨3, none, none, .store 5 (.t 3) (.t 102)⟩] [2, 3])
  .ret)))))))⟩
/-- spec.l6Open -/
def c_45 : AFn := ⟨1, 11, [], [.t 2],
  (.seq (.reg [⟨0, some 2, none, .mv (.c (.nilp))⟩] [0])
  (.seq (.seq (.reg [xm 0 3 0,
    ⟨1, some 4, none, .len (.t 3)⟩,
    ⟨2, some 5, none, .bin .gtr (.t 4) (.c (.int .i64 2000))⟩] [0, 5])
  (.cond (.t 5)
  (.reg [xm 0 6 0,
    ⟨1, some 7, none, .sl 1 (.t 6) none (some (.c (.int .i64 2000)))⟩, xm 2 0 7] [0])
  .skip))
  (.seq (.reg [xm 0 8 0,
    ⟨1, some 9, none, .build [.nils, .int .i64 0] [(0, 1, .t 8)]⟩,
    ⟨2, some 10, none, .boxH (.t 9)⟩, xm 3 2 10] [2])
  .ret)))⟩
/-- impl.roomsOk -/
def c_46 : AFn := ⟨2, 11, [], [.t 4],
  (.seq (.reg [⟨0, some 4, none, .mv (.c (.bool false))⟩] [0, 1])
  (.seq (.reg [xm 0 5 0,
    ⟨1, some 6, none, .call (.alone false true) 66 [.t 5, .c (.int .i64 1), .c (.int .i64 4)]⟩, xm 2 7 6,
    ⟨3, some 8, some (7, true), .mv (.t 1)⟩,
    ⟨4, some 9, some (7, true), .call (.alone false true) 66 [.t 8, .c (.int .i64 14), .c (.int .i64 60)]⟩,
    ⟨5, some 10, none, .pick (.t 7) (.t 9) (.c (.bool false))⟩, xm 6 4 10] [4])
  .ret))⟩
def b_47_0 : AC := (.seq (.reg [⟨0, some 11, none, .bin .lss (.t 10) (.t 9)⟩] [0, 4, 5, 9, 10, 11])
  (.seq (.cond (.t 11)
  .skip
  (.exit 0))
  (.seq (.block 1
  (.seq (.reg [xm 0 12 10, xm 1 6 12] [0, 4, 5, 6, 9, 10])
  (.seq (.reg [xf 0 13 1 5, xl 1 14 13,
    ⟨2, some 15, none, .build [.int .i64 0, .nils] [(0, 1, .c (.int .i64 (-1)))]⟩,
    ⟨3, some 16, none, .litI 2 [.t 15]⟩,
    ⟨4, some 17, none, .app 2 32 (.t 14) (.t 16)⟩, xf 5 18 1 5,
    ⟨6, none, none, .store 1 (.t 18) (.t 17)⟩] [0, 4, 5, 6, 9, 10])
  (.reg [xf 0 19 2 5, xl 1 20 19, xm 2 21 6,
    ⟨3, some 22, none, .bin .add (.t 21) (.c (.int .i64 1))⟩, xm 4 23 0,
    ⟨5, some 24, none, .bin .rem (.t 22) (.t 23)⟩,
    ⟨6, some 25, none, .litI 1 [.t 24]⟩,
    ⟨7, some 26, none, .app 1 8 (.t 20) (.t 25)⟩, xf 8 27 2 5,
    ⟨9, none, none, .store 1 (.t 27) (.t 26)⟩] [0, 4, 5, 9, 10]))))
  (.reg [⟨0, some 28, none, .bin .add (.t 10) (.c (.int .i64 1))⟩, xm 1 10 28] [0, 4, 5, 9, 10]))))
def l_47_0 : AC := b_47_0
theorem u_47_0 {A : Nat → Option AFn} {mt : Nat → Nat → Option Nat} {fr : Fr} {G : AG} {S : List KF} : evS A mt l_47_0 fr G S = evS A mt b_47_0 fr G S := rfl
/-- impl.bare -/
def c_47 : AFn := ⟨2, 30, [4, 5], [.c 4 (some 8)],
  (.seq (.reg [⟨0, some 4, none, .allocP [.int .i64 0, .nils, .nils, .int .i64 0, .nils, .int .i64 0, .nils, .int .i64 0]⟩] [0, 1, 4])
  (.seq (.reg [xm 0 7 1,
    ⟨1, some 8, none, .build [.int .i64 0, .nils, .nils, .int .i64 0, .nils, .int .i64 0, .nils, .int .i64 0] [(0, 1, .t 7)]⟩,
    ⟨2, some 5, none, .allocP [.int .i64 0, .nils, .nils, .int .i64 0, .nils, .int .i64 0, .nils, .int .i64 0]⟩,
    ⟨3, none, none, .store 8 (.t 5) (.t 8)⟩] [0, 4, 5])
  (.seq (.seq (.reg [xm 0 9 0,
    ⟨1, some 10, none, .mv (.c (.int .i64 0))⟩] [0, 4, 5, 9, 10])
  (.block 0
  (.loop l_47_0)))
  (.seq (.reg [xL 0 29 8 5,
    ⟨1, none, none, .store 8 (.t 4) (.t 29)⟩] [4])
  .ret))))⟩
/-- slices.Clone[[]impl.Val,impl.Val] -/
def c_48 : AFn := ⟨1, 8, [], [.t 2],
  (.seq (.reg [⟨0, some 2, none, .mv (.c (.nils))⟩] [0])
  (.seq (.reg [xm 0 3 0,
    ⟨1, some 4, none, .isnil false (.t 3)⟩] [0, 4])
  (.cond (.t 4)
  (.seq (.seq (.reg [⟨0, some 2, none, .mv (.c (.nils))⟩] [2])
  .ret)
  (.seq (.reg [⟨0, some 5, none, .litO 2 []⟩, xm 1 6 0,
    ⟨2, some 7, none, .app 2 16 (.t 5) (.t 6)⟩, xm 3 2 7] [2])
  .ret))
  (.seq .skip
  (.seq (.reg [⟨0, some 5, none, .litO 2 []⟩, xm 1 6 0,
    ⟨2, some 7, none, .app 2 16 (.t 5) (.t 6)⟩, xm 3 2 7] [2])
  .ret)))))⟩
/-- (impl.Call).copied -/
def c_49 : AFn := ⟨1, 12, [1, 2], [.c 2 (some 6)],
  (.seq (.reg [⟨0, some 1, none, .boxP (.t 0)⟩,
    ⟨1, some 2, none, .allocP [.int .i64 0, .int .i64 0, .nils, .nils, .int .i64 0, .bool false]⟩] [1, 2])
  (.seq (.reg [xf 0 3 2 1, xl 1 4 3, xf 3 6 3 1, xl 4 7 6,
    ⟨2, some 5, none, .call (.alone true false) 48 [.t 4]⟩,
    ⟨4, none, none, .again 7 (.load none (.t 6))⟩,
    ⟨5, some 8, none, .call (.alone true false) 48 [.t 7]⟩, xf 6 9 2 1,
    ⟨7, none, none, .store 1 (.t 9) (.t 5)⟩, xf 8 10 3 1,
    ⟨9, none, none, .store 1 (.t 10) (.t 8)⟩] [1, 2])
  (.seq (.reg [xL 0 11 6 1,
    ⟨1, none, none, .store 6 (.t 2) (.t 11)⟩] [2])
  .ret)))⟩
/-- (*impl.Mach).put -/
def c_50 : AFn := ⟨3, 36, [6], [],
  (.seq (.reg [xm 0 7 0, xn 1 8 7, xf 2 9 4 8, xl 3 10 9, xm 4 11 1, xi 5 12 8 10 11, xf 6 13 2 12, xL 7 14 6 13,
    ⟨8, some 6, none, .allocP [.int .i64 0, .int .i64 0, .nils, .nils, .int .i64 0, .bool false]⟩,
    ⟨9, none, none, .store 6 (.t 6) (.t 14)⟩] [0, 1, 2, 6])
  (.seq (.reg [xm 0 15 0, xn 1 16 15, xf 2 17 4 16, xl 3 18 17, xm 4 19 1, xm 5 20 2,
    ⟨6, some 21, none, .build [.int .i64 0, .int .i64 0, .int .i64 0, .int .i64 0, .nils, .nils, .int .i64 0, .bool false] [(0, 1, .t 20)]⟩, xi 7 22 8 18 19,
    ⟨8, none, none, .store 8 (.t 22) (.t 21)⟩] [0, 1, 2, 6])
  (.reg [xm 0 23 0, xn 1 24 23, xf 2 25 1 24, xl 3 26 25, xm 4 27 2, xf 5 28 4 6, xl 6 29 28, xL 7 30 6 6, xm 8 31 1,
    ⟨9, some 32, none, .call .whole 77 [.t 30, .t 31]⟩,
    ⟨3, none, none, .again 26 (.load none (.t 25))⟩,
    ⟨6, none, none, .again 29 (.load none (.t 28))⟩,
    ⟨10, some 33, none, .litO 5 [.t 32]⟩,
    ⟨3, none, none, .again 26 (.load none (.t 25))⟩,
    ⟨6, none, none, .again 29 (.load none (.t 28))⟩,
    ⟨11, some 34, none, .build [.int .i64 0, .nils] [(0, 1, .t 29), (1, 1, .t 33)]⟩, xi 12 35 2 26 27,
    ⟨13, none, none, .store 2 (.t 35) (.t 34)⟩] [])))⟩
/-- impl.MachOk -/
def c_51 : AFn := ⟨2, 51, [2, 3], [.t 4],
  (.seq (.reg [⟨0, some 2, none, .boxP (.t 0)⟩,
    ⟨1, some 3, none, .boxP (.t 1)⟩,
    ⟨2, some 4, none, .mv (.c (.bool false))⟩] [2, 3])
  (.seq (.seq (.reg [xL 0 5 1 2,
    ⟨1, some 6, none, .call (.alone false true) 65 [.t 5]⟩,
    ⟨2, some 7, none, .nt (.t 6)⟩, xm 3 8 7,
    ⟨4, some 9, some (8, false), .fld 1 (.t 3)⟩,
    ⟨5, some 10, some (8, false), .load none (.t 9)⟩,
    ⟨6, some 11, some (8, false), .len (.t 10)⟩,
    ⟨7, some 12, some (8, false), .fld 0 (.t 3)⟩,
    ⟨8, some 13, some (8, false), .load none (.t 12)⟩,
    ⟨9, some 14, some (8, false), .call (.alone false true) 46 [.t 11, .t 13]⟩,
    ⟨10, some 15, some (8, false), .nt (.t 14)⟩,
    ⟨11, some 16, none, .pick (.t 8) (.c (.bool true)) (.t 15)⟩, xm 12 17 16,
    ⟨13, some 18, some (17, false), .load (some 8) (.t 3)⟩,
    ⟨14, some 19, some (17, false), .call (.alone false true) 78 [.t 18]⟩,
    ⟨15, some 20, some (17, false), .nt (.t 19)⟩,
    ⟨16, some 21, none, .pick (.t 17) (.c (.bool true)) (.t 20)⟩, xm 17 22 21,
    ⟨18, some 23, some (22, false), .load (some 1) (.t 2)⟩,
    ⟨19, some 24, some (22, false), .fld 5 (.t 3)⟩,
    ⟨20, some 25, some (22, false), .load none (.t 24)⟩,
    ⟨21, some 26, some (22, false), .fld 6 (.t 3)⟩,
    ⟨22, some 27, some (22, false), .load none (.t 26)⟩,
    ⟨23, some 28, some (22, false), .fld 7 (.t 3)⟩,
    ⟨24, some 29, some (22, false), .load none (.t 28)⟩,
    ⟨25, some 30, some (22, false), .fld 3 (.t 3)⟩,
    ⟨26, some 31, some (22, false), .load none (.t 30)⟩,
    ⟨27, some 32, some (22, false), .bin .eql (.t 31) (.c (.int .i64 (-1)))⟩,
    ⟨28, some 33, some (22, false), .call (.alone false true) 67 [.t 23, .t 25, .t 27, .t 29, .t 32]⟩,
    ⟨29, some 34, some (22, false), .nt (.t 33)⟩,
    ⟨30, some 35, none, .pick (.t 22) (.c (.bool true)) (.t 34)⟩, xm 31 36 35,
    ⟨32, some 37, some (36, false), .fld 4 (.t 3)⟩,
    ⟨33, some 38, some (36, false), .load none (.t 37)⟩,
    ⟨34, some 39, some (36, false), .len (.t 38)⟩,
    ⟨35, some 40, some (36, false), .fld 5 (.t 3)⟩,
    ⟨36, some 41, some (36, false), .load none (.t 40)⟩,
    ⟨37, some 42, some (36, false), .bin .gtr (.t 39) (.t 41)⟩,
    ⟨38, some 43, none, .pick (.t 36) (.c (.bool true)) (.t 42)⟩] [2, 3, 43])
  (.cond (.t 43)
  (.seq (.reg [⟨0, some 4, none, .mv (.c (.bool false))⟩] [4])
  .ret)
  .skip))
  (.seq (.reg [xL 0 44 8 3, xL 1 45 1 2,
    ⟨2, some 46, none, .call (.alone false true) 79 [.t 44, .t 45]⟩, xm 3 47 46,
    ⟨4, some 48, some (47, true), .load (some 8) (.t 3)⟩,
    ⟨5, some 49, some (47, true), .call (.alone false true) 80 [.t 48]⟩,
    ⟨6, some 50, none, .pick (.t 47) (.t 49) (.c (.bool false))⟩, xm 7 4 50] [4])
  .ret)))⟩
/-- (impl.Mach).top -/
def c_52 : AFn := ⟨1, 29, [1, 2], [.c 2 (some 2), .t 3],
  (.seq (.reg [⟨0, some 1, none, .boxP (.t 0)⟩,
    ⟨1, some 2, none, .allocP [.int .i64 0, .int .i64 0]⟩,
    ⟨2, some 3, none, .mv (.c (.bool false))⟩] [1, 2])
  (.seq (.seq (.reg [xf 0 5 3 1, xl 1 6 5, xf 2 7 1 1, xl 3 8 7,
    ⟨4, some 9, none, .len (.t 8)⟩,
    ⟨5, some 10, none, .bin .sub (.t 9) (.c (.int .i64 1))⟩,
    ⟨6, some 11, none, .call (.alone false true) 66 [.t 6, .c (.int .i64 0), .t 10]⟩,
    ⟨7, some 12, none, .nt (.t 11)⟩] [1, 2, 12])
  (.cond (.t 12)
  (.seq (.reg [⟨0, some 13, none, .build [.int .i64 0, .int .i64 0] []⟩,
    ⟨1, none, none, .store 2 (.t 2) (.t 13)⟩,
    ⟨2, some 3, none, .mv (.c (.bool false))⟩] [2, 3])
  .ret)
  .skip))
  (.seq (.reg [xf 0 14 1 1, xl 1 15 14, xf 2 16 3 1, xl 3 17 16, xi 4 18 2 15 17, xf 5 19 1 18, xl 6 20 19,
    ⟨7, some 21, none, .len (.t 20)⟩,
    ⟨8, some 22, none, .bin .sub (.t 21) (.c (.int .i64 1))⟩, xm 9 4 22] [1, 2, 4])
  (.seq (.reg [xf 0 23 3 1, xl 1 24 23, xm 2 25 4,
    ⟨3, some 26, none, .build [.int .i64 0, .int .i64 0] [(0, 1, .t 24), (1, 1, .t 25)]⟩, xm 4 27 4,
    ⟨5, some 28, none, .bin .geq (.t 27) (.c (.int .i64 0))⟩,
    ⟨6, none, none, .store 2 (.t 2) (.t 26)⟩, xm 7 3 28] [2, 3])
  .ret))))⟩
/-- (impl.Mach).callAt -/
def c_53 : AFn := ⟨2, 27, [2, 3, 4], [.c 4 (some 6)],
  (.seq (.reg [⟨0, some 2, none, .boxP (.t 0)⟩,
    ⟨1, some 3, none, .boxP (.t 1)⟩,
    ⟨2, some 4, none, .allocP [.int .i64 0, .int .i64 0, .nils, .nils, .int .i64 0, .bool false]⟩] [2, 3, 4])
  (.seq (.seq (.reg [xf 0 5 0 3, xl 1 6 5,
    ⟨2, some 7, none, .bin .lss (.t 6) (.c (.int .i64 0))⟩] [2, 3, 4, 7])
  (.cond (.t 7)
  (.seq (.reg [xf 0 8 4 2, xl 1 9 8, xf 2 10 1 3, xl 3 11 10, xi 4 12 8 9 11, xf 5 13 2 12, xL 6 14 6 13,
    ⟨7, none, none, .store 6 (.t 4) (.t 14)⟩] [4])
  .ret)
  .skip))
  (.seq (.reg [xf 0 15 1 2, xl 1 16 15, xf 2 17 0 3, xl 3 18 17, xi 4 19 2 16 18, xf 5 20 1 19, xl 6 21 20, xf 7 22 1 3, xl 8 23 22, xi 9 24 5 21 23, xL 10 25 5 24,
    ⟨11, some 26, none, .call (.alone false true) 81 [.t 25, .c (.int .i64 (-1))]⟩,
    ⟨12, none, none, .store 6 (.t 4) (.t 26)⟩] [4])
  .ret)))⟩
def b_54_0 : AC := (.seq (.seq (.reg [xm 0 17 3, xf 1 18 0 1, xl 2 19 18,
    ⟨3, some 20, none, .len (.t 19)⟩,
    ⟨4, some 21, none, .bin .lss (.t 17) (.t 20)⟩] [1, 3, 21])
  (.cond (.t 21)
  .skip
  (.exit 0)))
  (.seq (.block 1
  (.seq (.reg [xL 0 24 1 1, xf 1 25 0 1, xl 2 26 25, xm 3 27 3, xi 4 28 3 26 27, xL 5 29 3 28,
    ⟨6, some 30, none, .call (.alone false true) 82 [.t 24, .t 29]⟩,
    ⟨7, some 31, none, .nt (.t 30)⟩] [1, 3, 31])
  (.cond (.t 31)
  (.seq (.reg [⟨0, some 2, none, .mv (.c (.bool false))⟩] [2])
  .ret)
  .skip)))
  (.reg [xm 0 22 3,
    ⟨1, some 23, none, .bin .add (.t 22) (.c (.int .i64 1))⟩, xm 2 3 23] [1, 3])))
def l_54_0 : AC := b_54_0
theorem u_54_0 {A : Nat → Option AFn} {mt : Nat → Nat → Option Nat} {fr : Fr} {G : AG} {S : List KF} : evS A mt l_54_0 fr G S = evS A mt b_54_0 fr G S := rfl
/-- spec.ProgOk -/
def c_54 : AFn := ⟨1, 32, [1], [.t 2],
  (.seq (.reg [⟨0, some 1, none, .boxP (.t 0)⟩,
    ⟨1, some 2, none, .mv (.c (.bool false))⟩] [1])
  (.seq (.seq (.reg [xf 0 4 0 1, xl 1 5 4,
    ⟨2, some 6, none, .len (.t 5)⟩,
    ⟨3, some 7, none, .call (.alone false true) 55 [.t 6, .c (.int .i64 1), .c (.int .i64 4)]⟩,
    ⟨4, some 8, none, .nt (.t 7)⟩, xm 5 9 8,
    ⟨6, some 10, some (9, false), .fld 0 (.t 1)⟩,
    ⟨7, some 11, some (9, false), .load none (.t 10)⟩,
    ⟨8, some 12, some (9, false), .idx 3 (.t 11) (.c (.int .i64 0))⟩,
    ⟨9, some 13, some (9, false), .fld 0 (.t 12)⟩,
    ⟨10, some 14, some (9, false), .load none (.t 13)⟩,
    ⟨11, some 15, some (9, false), .bin .neq (.t 14) (.c (.int .i64 0))⟩,
    ⟨12, some 16, none, .pick (.t 9) (.c (.bool true)) (.t 15)⟩] [1, 16])
  (.cond (.t 16)
  (.seq (.reg [⟨0, some 2, none, .mv (.c (.bool false))⟩] [2])
  .ret)
  .skip))
  (.seq (.seq (.reg [⟨0, some 3, none, .mv (.c (.int .i64 0))⟩] [1, 3])
  (.block 0
  (.loop l_54_0)))
  (.seq (.reg [⟨0, some 2, none, .mv (.c (.bool true))⟩] [2])
  .ret))))⟩
/-- spec.l6In -/
def c_55 : AFn := ⟨3, 15, [], [.t 6],
  (.seq (.reg [⟨0, some 6, none, .mv (.c (.bool false))⟩] [0, 1, 2])
  (.seq (.reg [xm 0 7 0, xm 1 8 1,
    ⟨2, some 9, none, .bin .geq (.t 7) (.t 8)⟩, xm 3 10 9,
    ⟨4, some 11, some (10, true), .mv (.t 0)⟩,
    ⟨5, some 12, some (10, true), .mv (.t 2)⟩,
    ⟨6, some 13, some (10, true), .bin .leq (.t 11) (.t 12)⟩,
    ⟨7, some 14, none, .pick (.t 10) (.t 13) (.c (.bool false))⟩, xm 8 6 14] [6])
  .ret))⟩
def b_56_0 : AC := (.seq (.seq (.reg [xm 0 7 5, xm 1 8 1,
    ⟨2, some 9, none, .len (.t 8)⟩,
    ⟨3, some 10, none, .bin .lss (.t 7) (.t 9)⟩] [1, 2, 5, 10])
  (.cond (.t 10)
  .skip
  (.exit 0)))
  (.seq (.block 1
  (.seq (.reg [xm 0 13 1, xm 1 14 5, xi 2 15 2 13 14, xL 3 16 2 15,
    ⟨4, some 6, none, .allocP [.int .i64 0, .int .i64 0]⟩,
    ⟨5, none, none, .store 2 (.t 6) (.t 16)⟩] [1, 2, 5, 6])
  (.seq (.reg [xf 0 17 0 6, xl 1 18 17,
    ⟨2, some 19, none, .bin .eql (.t 18) (.c (.int .i64 2))⟩, xm 3 20 19,
    ⟨4, some 21, some (20, true), .fld 1 (.t 6)⟩,
    ⟨5, some 22, some (20, true), .load none (.t 21)⟩,
    ⟨6, some 23, some (20, true), .fld 0 (.t 2)⟩,
    ⟨7, some 24, some (20, true), .load none (.t 23)⟩,
    ⟨8, some 25, some (20, true), .len (.t 24)⟩,
    ⟨9, some 26, some (20, true), .bin .sub (.t 25) (.c (.int .i64 1))⟩,
    ⟨10, some 27, some (20, true), .call (.alone false true) 55 [.t 22, .c (.int .i64 0), .t 26]⟩,
    ⟨11, some 28, some (20, true), .nt (.t 27)⟩,
    ⟨12, some 29, none, .pick (.t 20) (.t 28) (.c (.bool false))⟩, xm 13 30 29,
    ⟨14, some 31, some (30, false), .fld 0 (.t 6)⟩,
    ⟨15, some 32, some (30, false), .load none (.t 31)⟩,
    ⟨16, some 33, some (30, false), .bin .neq (.t 32) (.c (.int .i64 2))⟩,
    ⟨17, some 34, some (30, false), .mv (.t 33)⟩,
    ⟨18, some 35, some (34, true), .load (some 2) (.t 6)⟩,
    ⟨19, some 36, some (34, true), .call (.alone false true) 83 [.t 35, .c (.int .i64 0)]⟩,
    ⟨20, some 37, some (34, true), .nt (.t 36)⟩,
    ⟨21, some 38, some (30, false), .pick (.t 34) (.t 37) (.c (.bool false))⟩,
    ⟨22, some 39, none, .pick (.t 30) (.c (.bool true)) (.t 38)⟩] [1, 2, 5, 39])
  (.cond (.t 39)
  (.seq (.reg [⟨0, some 4, none, .mv (.c (.bool false))⟩] [4])
  .ret)
  .skip))))
  (.reg [xm 0 11 5,
    ⟨1, some 12, none, .bin .add (.t 11) (.c (.int .i64 1))⟩, xm 2 5 12] [1, 2, 5])))
def l_56_0 : AC := b_56_0
theorem u_56_0 {A : Nat → Option AFn} {mt : Nat → Nat → Option Nat} {fr : Fr} {G : AG} {S : List KF} : evS A mt l_56_0 fr G S = evS A mt b_56_0 fr G S := rfl
/-- spec.l11Said -/
def c_56 : AFn := ⟨2, 40, [2, 6], [.t 4],
  (.seq (.reg [⟨0, some 2, none, .boxP (.t 0)⟩,
    ⟨1, some 4, none, .mv (.c (.bool false))⟩] [1, 2])
  (.seq (.seq (.reg [⟨0, some 5, none, .mv (.c (.int .i64 0))⟩] [1, 2, 5])
  (.block 0
  (.loop l_56_0)))
  (.seq (.reg [⟨0, some 4, none, .mv (.c (.bool true))⟩] [4])
  .ret)))⟩
/-- spec.l11Form -/
def c_57 : AFn := ⟨3, 81, [3, 4], [.t 6],
  (.seq (.reg [⟨0, some 3, none, .boxP (.t 0)⟩,
    ⟨1, some 4, none, .boxP (.t 1)⟩,
    ⟨2, some 6, none, .mv (.c (.bool false))⟩] [2, 3, 4])
  (.seq (.seq (.reg [xf 0 7 0 4, xl 1 8 7, xf 2 9 0 3, xl 3 10 9,
    ⟨4, some 11, none, .len (.t 10)⟩,
    ⟨5, some 12, none, .bin .sub (.t 11) (.c (.int .i64 1))⟩,
    ⟨6, some 13, none, .call (.alone false true) 55 [.t 8, .c (.int .i64 0), .t 12]⟩,
    ⟨7, some 14, none, .nt (.t 13)⟩, xm 8 15 14,
    ⟨9, some 16, some (15, false), .fld 1 (.t 4)⟩,
    ⟨10, some 17, some (15, false), .load none (.t 16)⟩,
    ⟨11, some 18, some (15, false), .fld 0 (.t 3)⟩,
    ⟨12, some 19, some (15, false), .load none (.t 18)⟩,
    ⟨13, some 20, some (15, false), .fld 0 (.t 4)⟩,
    ⟨14, some 21, some (15, false), .load none (.t 20)⟩,
    ⟨15, some 22, some (15, false), .idx 3 (.t 19) (.t 21)⟩,
    ⟨16, some 23, some (15, false), .fld 2 (.t 22)⟩,
    ⟨17, some 24, some (15, false), .load none (.t 23)⟩,
    ⟨18, some 25, some (15, false), .len (.t 24)⟩,
    ⟨19, some 26, some (15, false), .call (.alone false true) 55 [.t 17, .c (.int .i64 0), .t 25]⟩,
    ⟨20, some 27, some (15, false), .nt (.t 26)⟩,
    ⟨21, some 28, none, .pick (.t 15) (.c (.bool true)) (.t 27)⟩, xm 22 29 28,
    ⟨23, some 30, some (29, false), .fld 2 (.t 4)⟩,
    ⟨24, some 31, some (29, false), .load none (.t 30)⟩,
    ⟨25, some 32, some (29, false), .len (.t 31)⟩,
    ⟨26, some 33, some (29, false), .fld 0 (.t 3)⟩,
    ⟨27, some 34, some (29, false), .load none (.t 33)⟩,
    ⟨28, some 35, some (29, false), .fld 0 (.t 4)⟩,
    ⟨29, some 36, some (29, false), .load none (.t 35)⟩,
    ⟨30, some 37, some (29, false), .idx 3 (.t 34) (.t 36)⟩,
    ⟨31, some 38, some (29, false), .fld 1 (.t 37)⟩,
    ⟨32, some 39, some (29, false), .load none (.t 38)⟩,
    ⟨33, some 40, some (29, false), .bin .neq (.t 32) (.t 39)⟩,
    ⟨34, some 41, none, .pick (.t 29) (.c (.bool true)) (.t 40)⟩, xm 35 42 41,
    ⟨36, some 43, some (42, false), .fld 3 (.t 4)⟩,
    ⟨37, some 44, some (42, false), .load none (.t 43)⟩,
    ⟨38, some 45, some (42, false), .len (.t 44)⟩,
    ⟨39, some 46, some (42, false), .bin .gtr (.t 45) (.c (.int .i64 6))⟩,
    ⟨40, some 47, none, .pick (.t 42) (.c (.bool true)) (.t 46)⟩] [2, 4, 47])
  (.cond (.t 47)
  (.seq (.reg [⟨0, some 6, none, .mv (.c (.bool false))⟩] [6])
  .ret)
  .skip))
  (.seq (.reg [xf 0 48 4 4, xl 1 49 48, xm 2 50 2,
    ⟨3, some 51, none, .bin .sub (.t 50) (.c (.int .i64 1))⟩,
    ⟨4, some 52, none, .call (.alone false true) 55 [.t 49, .c (.int .i64 (-1)), .t 51]⟩, xm 5 53 52,
    ⟨6, some 54, some (53, true), .fld 2 (.t 4)⟩,
    ⟨7, some 55, some (53, true), .load none (.t 54)⟩,
    ⟨8, some 56, some (53, true), .mv (.t 2)⟩,
    ⟨9, some 57, some (53, true), .call (.alone false true) 84 [.t 55, .t 56]⟩,
    ⟨10, some 58, none, .pick (.t 53) (.t 57) (.c (.bool false))⟩, xm 11 59 58,
    ⟨12, some 60, some (59, true), .fld 3 (.t 4)⟩,
    ⟨13, some 61, some (59, true), .load none (.t 60)⟩,
    ⟨14, some 62, some (59, true), .mv (.t 2)⟩,
    ⟨15, some 63, some (59, true), .call (.alone false true) 84 [.t 61, .t 62]⟩,
    ⟨16, some 64, none, .pick (.t 59) (.t 63) (.c (.bool false))⟩, xm 17 65 64,
    ⟨18, some 66, some (65, true), .fld 5 (.t 4)⟩,
    ⟨19, some 67, some (65, true), .load none (.t 66)⟩,
    ⟨20, some 68, some (65, true), .nt (.t 67)⟩,
    ⟨21, some 69, some (65, true), .mv (.t 68)⟩,
    ⟨22, some 70, some (69, false), .fld 4 (.t 4)⟩,
    ⟨23, some 71, some (69, false), .load none (.t 70)⟩,
    ⟨24, some 72, some (69, false), .bin .eql (.t 71) (.c (.int .i64 (-1)))⟩,
    ⟨25, some 73, some (69, false), .mv (.t 72)⟩,
    ⟨26, some 74, some (73, true), .fld 3 (.t 4)⟩,
    ⟨27, some 75, some (73, true), .load none (.t 74)⟩,
    ⟨28, some 76, some (73, true), .len (.t 75)⟩,
    ⟨29, some 77, some (73, true), .bin .eql (.t 76) (.c (.int .i64 0))⟩,
    ⟨30, some 78, some (69, false), .pick (.t 73) (.t 77) (.c (.bool false))⟩,
    ⟨31, some 79, some (65, true), .pick (.t 69) (.c (.bool true)) (.t 78)⟩,
    ⟨32, some 80, none, .pick (.t 65) (.t 79) (.c (.bool false))⟩, xm 33 6 80] [6])
  .ret)))⟩
def b_58_0 : AC := (.seq (.seq (.reg [xm 0 7 4, xm 1 8 3,
    ⟨2, some 9, none, .len (.t 8)⟩,
    ⟨3, some 10, none, .bin .lss (.t 7) (.t 9)⟩] [1, 3, 4, 10])
  (.cond (.t 10)
  .skip
  (.exit 0)))
  (.seq (.block 1
  (.seq (.reg [xf 0 13 0 1, xl 1 14 13, xm 2 15 3, xm 3 16 4, xi 4 17 1 15 16, xl 5 18 17, xi 6 19 6 14 18, xf 7 20 3 19, xl 8 21 20,
    ⟨9, some 22, none, .len (.t 21)⟩,
    ⟨10, some 23, none, .bin .geq (.t 22) (.c (.int .i64 6))⟩] [1, 3, 4, 23])
  (.cond (.t 23)
  (.seq (.reg [⟨0, some 2, none, .mv (.c (.bool false))⟩] [2])
  .ret)
  .skip)))
  (.reg [xm 0 11 4,
    ⟨1, some 12, none, .bin .add (.t 11) (.c (.int .i64 1))⟩, xm 2 4 12] [1, 3, 4])))
def l_58_0 : AC := b_58_0
theorem u_58_0 {A : Nat → Option AFn} {mt : Nat → Nat → Option Nat} {fr : Fr} {G : AG} {S : List KF} : evS A mt l_58_0 fr G S = evS A mt b_58_0 fr G S := rfl
/-- spec.l11Wait -/
def c_58 : AFn := ⟨1, 24, [1], [.t 2],
  (.seq (.reg [⟨0, some 1, none, .boxP (.t 0)⟩,
    ⟨1, some 2, none, .mv (.c (.bool false))⟩] [1])
  (.seq (.reg [xL 0 5 5 1,
    ⟨1, some 6, none, .call (.alone false true) 40 [.t 5]⟩, xm 2 3 6] [1, 3])
  (.seq (.seq (.reg [⟨0, some 4, none, .mv (.c (.int .i64 1))⟩] [1, 3, 4])
  (.block 0
  (.loop l_58_0)))
  (.seq (.reg [⟨0, some 2, none, .mv (.c (.bool true))⟩] [2])
  .ret))))⟩
/-- (impl.Mach).caller -/
def c_59 : AFn := ⟨2, 49, [2, 3, 4], [.c 4 (some 2), .t 5, .t 6],
  (.seq (.reg [⟨0, some 2, none, .boxP (.t 0)⟩,
    ⟨1, some 3, none, .boxP (.t 1)⟩,
    ⟨2, some 4, none, .allocP [.int .i64 0, .int .i64 0]⟩,
    ⟨3, some 5, none, .mv (.c (.bool false))⟩,
    ⟨4, some 6, none, .mv (.c (.bool false))⟩] [2, 3, 4])
  (.seq (.reg [⟨0, some 7, none, .mv (.c (.int .i64 (-1)))⟩] [2, 3, 4])
  (.seq (.block 0
  (.seq (.reg [xf 0 16 0 3, xl 1 17 16,
    ⟨2, some 18, none, .bin .lss (.t 17) (.c (.int .i64 0))⟩, xm 3 15 18] [2, 3, 4, 15])
  (.cond (.t 15)
  (.reg [xf 0 19 4 2, xl 1 20 19, xf 2 21 1 3, xl 3 22 21, xi 4 23 8 20 22, xf 5 24 2 23, xf 6 25 4 24, xl 7 26 25, xm 8 7 26] [2, 4, 7])
  (.seq (.reg [xf 0 28 1 3, xl 1 29 28,
    ⟨2, some 30, none, .bin .gtr (.t 29) (.c (.int .i64 0))⟩, xm 3 27 30] [2, 3, 4, 27])
  (.cond (.t 27)
  (.seq (.reg [xf 0 31 0 3, xl 1 32 31, xf 2 33 1 3, xl 3 34 33,
    ⟨4, some 35, none, .bin .sub (.t 34) (.c (.int .i64 1))⟩,
    ⟨5, some 36, none, .build [.int .i64 0, .int .i64 0] [(0, 1, .t 32), (1, 1, .t 35)]⟩,
    ⟨6, none, none, .store 2 (.t 4) (.t 36)⟩,
    ⟨7, some 5, none, .mv (.c (.bool true))⟩,
    ⟨8, some 6, none, .mv (.c (.bool true))⟩] [4, 5, 6])
  .ret)
  (.reg [xf 0 8 1 2, xl 1 9 8, xf 2 10 0 3, xl 3 11 10, xi 4 12 2 9 11, xf 5 13 0 12, xl 6 14 13, xm 7 7 14] [2, 4, 7]))))))
  (.seq (.seq (.reg [xm 0 37 7,
    ⟨1, some 38, none, .bin .eql (.t 37) (.c (.int .i64 (-1)))⟩] [2, 4, 7, 38])
  (.cond (.t 38)
  (.seq (.reg [⟨0, some 39, none, .build [.int .i64 0, .int .i64 0] []⟩,
    ⟨1, none, none, .store 2 (.t 4) (.t 39)⟩,
    ⟨2, some 5, none, .mv (.c (.bool false))⟩,
    ⟨3, some 6, none, .mv (.c (.bool true))⟩] [4, 5, 6])
  .ret)
  .skip))
  (.seq (.reg [xL 0 41 8 2, xm 1 42 7,
    ⟨2, some 43, none, .call (.alone false true) 85 [.t 41, .t 42]⟩, xm 3 40 43,
    ⟨4, some 44, none, .ext (.t 40) 0⟩,
    ⟨5, some 45, none, .ext (.t 40) 1⟩,
    ⟨6, none, none, .store 2 (.t 4) (.t 44)⟩, xm 7 6 45] [4, 6])
  (.seq (.reg [xL 0 46 2 4, xm 1 47 6, xm 2 48 6,
    ⟨3, none, none, .store 2 (.t 4) (.t 46)⟩, xm 4 5 47, xm 5 6 48] [4, 5, 6])
  .ret))))))⟩
/-- impl.ProgOk -/
def c_65 : AFn := ⟨1, 21, [], [.t 2],
  (.seq (.reg [⟨0, some 1, none, .boxH (.t 0)⟩,
    ⟨1, some 2, none, .mv (.c (.bool false))⟩] [1])
  (.seq (.seq (.reg [xf 0 3 0 1, xl 1 4 3,
    ⟨2, some 5, none, .len (.t 4)⟩,
    ⟨3, some 6, none, .call (.alone false true) 66 [.t 5, .c (.int .i64 1), .c (.int .i64 4)]⟩,
    ⟨4, some 7, none, .nt (.t 6)⟩, xm 5 8 7,
    ⟨6, some 9, some (8, false), .fld 0 (.t 1)⟩,
    ⟨7, some 10, some (8, false), .load none (.t 9)⟩,
    ⟨8, some 11, some (8, false), .idx 3 (.t 10) (.c (.int .i64 0))⟩,
    ⟨9, some 12, some (8, false), .fld 0 (.t 11)⟩,
    ⟨10, some 13, some (8, false), .load none (.t 12)⟩,
    ⟨11, some 14, some (8, false), .bin .neq (.t 13) (.c (.int .i64 0))⟩,
    ⟨12, some 15, none, .pick (.t 8) (.c (.bool true)) (.t 14)⟩] [1, 15])
  (.cond (.t 15)
  (.seq (.reg [⟨0, some 2, none, .mv (.c (.bool false))⟩] [2])
  .ret)
  .skip))
  (.seq (.reg [xf 0 16 0 1, xl 1 17 16,
    ⟨2, some 18, none, .mkf 89 [.t 1]⟩,
    ⟨3, some 19, none, .call (.alone true true) 88 [.t 17, .t 18]⟩,
    ⟨4, some 20, none, .nt (.t 19)⟩, xm 5 2 20] [2])
  .ret)))⟩
/-- impl.in -/
def c_66 : AFn := ⟨3, 15, [], [.t 6],
  (.seq (.reg [⟨0, some 6, none, .mv (.c (.bool false))⟩] [0, 1, 2])
  (.seq (.reg [xm 0 7 0, xm 1 8 1,
    ⟨2, some 9, none, .bin .geq (.t 7) (.t 8)⟩, xm 3 10 9,
    ⟨4, some 11, some (10, true), .mv (.t 0)⟩,
    ⟨5, some 12, some (10, true), .mv (.t 2)⟩,
    ⟨6, some 13, some (10, true), .bin .leq (.t 11) (.t 12)⟩,
    ⟨7, some 14, none, .pick (.t 10) (.t 13) (.c (.bool false))⟩, xm 8 6 14] [6])
  .ret))⟩
/-- impl.told -/
def c_67 : AFn := ⟨5, 31, [], [.t 10],
  (.seq (.reg [⟨0, some 5, none, .boxH (.t 0)⟩,
    ⟨1, some 10, none, .mv (.c (.bool false))⟩] [1, 2, 3, 4, 5])
  (.seq (.reg [⟨0, some 12, none, .mkf 93 [.t 5]⟩, xm 1 11 12] [1, 2, 3, 4, 11])
  (.seq (.reg [xm 0 13 1,
    ⟨1, some 14, none, .call (.alone false true) 66 [.t 13, .c (.int .i64 1), .c (.int .i64 30)]⟩, xm 2 15 14,
    ⟨3, some 16, some (15, true), .mv (.t 2)⟩,
    ⟨4, some 17, some (15, true), .mv (.t 11)⟩,
    ⟨5, some 18, some (15, true), .call (.alone true true) 95 [.t 16, .t 17]⟩,
    ⟨6, some 19, some (15, true), .nt (.t 18)⟩,
    ⟨7, some 20, none, .pick (.t 15) (.t 19) (.c (.bool false))⟩, xm 8 21 20,
    ⟨9, some 22, some (21, true), .mv (.t 3)⟩,
    ⟨10, some 23, some (21, true), .call (.alone false true) 66 [.t 22, .c (.int .i64 0), .c (.int .i64 3)]⟩,
    ⟨11, some 24, none, .pick (.t 21) (.t 23) (.c (.bool false))⟩, xm 12 25 24,
    ⟨13, some 26, some (25, true), .mv (.t 3)⟩,
    ⟨14, some 27, some (25, true), .bin .eql (.t 26) (.c (.int .i64 1))⟩,
    ⟨15, some 28, some (25, true), .mv (.t 4)⟩,
    ⟨16, some 29, some (25, true), .eqk .b false (.t 27) (.t 28)⟩,
    ⟨17, some 30, none, .pick (.t 25) (.t 29) (.c (.bool false))⟩, xm 18 10 30] [10])
  .ret)))⟩
/-- (impl.Call).formed -/
def c_68 : AFn := ⟨3, 82, [3, 4], [.t 6],
  (.seq (.reg [⟨0, some 3, none, .boxP (.t 0)⟩,
    ⟨1, some 4, none, .boxP (.t 1)⟩,
    ⟨2, some 6, none, .mv (.c (.bool false))⟩] [2, 3, 4])
  (.seq (.seq (.reg [xf 0 7 0 3, xl 1 8 7, xf 2 9 0 4, xl 3 10 9,
    ⟨4, some 11, none, .len (.t 10)⟩,
    ⟨5, some 12, none, .bin .sub (.t 11) (.c (.int .i64 1))⟩,
    ⟨6, some 13, none, .call (.alone false true) 66 [.t 8, .c (.int .i64 0), .t 12]⟩,
    ⟨7, some 14, none, .nt (.t 13)⟩, xm 8 15 14,
    ⟨9, some 16, some (15, false), .fld 1 (.t 3)⟩,
    ⟨10, some 17, some (15, false), .load none (.t 16)⟩,
    ⟨11, some 18, some (15, false), .fld 0 (.t 4)⟩,
    ⟨12, some 19, some (15, false), .load none (.t 18)⟩,
    ⟨13, some 20, some (15, false), .fld 0 (.t 3)⟩,
    ⟨14, some 21, some (15, false), .load none (.t 20)⟩,
    ⟨15, some 22, some (15, false), .idx 3 (.t 19) (.t 21)⟩,
    ⟨16, some 23, some (15, false), .fld 2 (.t 22)⟩,
    ⟨17, some 24, some (15, false), .load none (.t 23)⟩,
    ⟨18, some 25, some (15, false), .len (.t 24)⟩,
    ⟨19, some 26, some (15, false), .call (.alone false true) 66 [.t 17, .c (.int .i64 0), .t 25]⟩,
    ⟨20, some 27, some (15, false), .nt (.t 26)⟩,
    ⟨21, some 28, none, .pick (.t 15) (.c (.bool true)) (.t 27)⟩, xm 22 29 28,
    ⟨23, some 30, some (29, false), .fld 2 (.t 3)⟩,
    ⟨24, some 31, some (29, false), .load none (.t 30)⟩,
    ⟨25, some 32, some (29, false), .len (.t 31)⟩,
    ⟨26, some 33, some (29, false), .fld 0 (.t 4)⟩,
    ⟨27, some 34, some (29, false), .load none (.t 33)⟩,
    ⟨28, some 35, some (29, false), .fld 0 (.t 3)⟩,
    ⟨29, some 36, some (29, false), .load none (.t 35)⟩,
    ⟨30, some 37, some (29, false), .idx 3 (.t 34) (.t 36)⟩,
    ⟨31, some 38, some (29, false), .fld 1 (.t 37)⟩,
    ⟨32, some 39, some (29, false), .load none (.t 38)⟩,
    ⟨33, some 40, some (29, false), .bin .neq (.t 32) (.t 39)⟩,
    ⟨34, some 41, none, .pick (.t 29) (.c (.bool true)) (.t 40)⟩] [2, 3, 41])
  (.cond (.t 41)
  (.seq (.reg [⟨0, some 6, none, .mv (.c (.bool false))⟩] [6])
  .ret)
  .skip))
  (.seq (.seq (.reg [xf 0 42 3 3, xl 1 43 42,
    ⟨2, some 44, none, .len (.t 43)⟩,
    ⟨3, some 45, none, .bin .gtr (.t 44) (.c (.int .i64 6))⟩, xm 4 46 45,
    ⟨5, some 47, some (46, false), .fld 2 (.t 3)⟩,
    ⟨6, some 48, some (46, false), .load none (.t 47)⟩,
    ⟨7, some 49, some (46, false), .mv (.t 2)⟩,
    ⟨8, some 50, some (46, false), .call (.alone false true) 96 [.t 48, .t 49]⟩,
    ⟨9, some 51, some (46, false), .nt (.t 50)⟩,
    ⟨10, some 52, none, .pick (.t 46) (.c (.bool true)) (.t 51)⟩, xm 11 53 52,
    ⟨12, some 54, some (53, false), .fld 3 (.t 3)⟩,
    ⟨13, some 55, some (53, false), .load none (.t 54)⟩,
    ⟨14, some 56, some (53, false), .mv (.t 2)⟩,
    ⟨15, some 57, some (53, false), .call (.alone false true) 96 [.t 55, .t 56]⟩,
    ⟨16, some 58, some (53, false), .nt (.t 57)⟩,
    ⟨17, some 59, none, .pick (.t 53) (.c (.bool true)) (.t 58)⟩, xm 18 60 59,
    ⟨19, some 61, some (60, false), .fld 4 (.t 3)⟩,
    ⟨20, some 62, some (60, false), .load none (.t 61)⟩,
    ⟨21, some 63, some (60, false), .mv (.t 2)⟩,
    ⟨22, some 64, some (60, false), .bin .sub (.t 63) (.c (.int .i64 1))⟩,
    ⟨23, some 65, some (60, false), .call (.alone false true) 66 [.t 62, .c (.int .i64 (-1)), .t 64]⟩,
    ⟨24, some 66, some (60, false), .nt (.t 65)⟩,
    ⟨25, some 67, none, .pick (.t 60) (.c (.bool true)) (.t 66)⟩] [3, 67])
  (.cond (.t 67)
  (.seq (.reg [⟨0, some 6, none, .mv (.c (.bool false))⟩] [6])
  .ret)
  .skip))
  (.seq (.reg [xf 0 68 5 3, xl 1 69 68,
    ⟨2, some 70, none, .nt (.t 69)⟩, xm 3 71 70,
    ⟨4, some 72, some (71, false), .fld 3 (.t 3)⟩,
    ⟨5, some 73, some (71, false), .load none (.t 72)⟩,
    ⟨6, some 74, some (71, false), .len (.t 73)⟩,
    ⟨7, some 75, some (71, false), .bin .eql (.t 74) (.c (.int .i64 0))⟩,
    ⟨8, some 76, some (71, false), .mv (.t 75)⟩,
    ⟨9, some 77, some (76, true), .fld 4 (.t 3)⟩,
    ⟨10, some 78, some (76, true), .load none (.t 77)⟩,
    ⟨11, some 79, some (76, true), .bin .eql (.t 78) (.c (.int .i64 (-1)))⟩,
    ⟨12, some 80, some (71, false), .pick (.t 76) (.t 79) (.c (.bool false))⟩,
    ⟨13, some 81, none, .pick (.t 71) (.c (.bool true)) (.t 80)⟩, xm 14 6 81] [6])
  .ret))))⟩
def b_73_0 : AC := (.seq (.seq (.reg [xm 0 11 4,
    ⟨1, some 12, none, .bin .gtr (.t 11) (.c (.int .i64 0))⟩] [0, 2, 3, 4, 12])
  (.cond (.t 12)
  .skip
  (.exit 0)))
  (.seq (.block 1
  (.reg [xm 0 15 3, xm 1 16 0,
    ⟨2, some 17, none, .call .whole 76 [.t 16, .c (.int .i64 3)]⟩,
    ⟨3, some 18, none, .litI 1 [.t 17]⟩,
    ⟨4, some 19, none, .app 1 8 (.t 15) (.t 18)⟩, xm 5 3 19] [0, 2, 3, 4]))
  (.reg [xm 0 13 4,
    ⟨1, some 14, none, .bin .sub (.t 13) (.c (.int .i64 1))⟩, xm 2 4 14] [0, 2, 3, 4])))
def l_73_0 : AC := b_73_0
theorem u_73_0 {A : Nat → Option AFn} {mt : Nat → Nat → Option Nat} {fr : Fr} {G : AG} {S : List KF} : evS A mt l_73_0 fr G S = evS A mt b_73_0 fr G S := rfl
def b_73_1 : AC := (.seq (.seq (.reg [xm 0 21 6, xm 1 22 3,
    ⟨2, some 23, none, .len (.t 22)⟩,
    ⟨3, some 24, none, .bin .lss (.t 21) (.t 23)⟩] [0, 2, 3, 5, 6, 24])
  (.cond (.t 24)
  .skip
  (.exit 2)))
  (.seq (.block 3
  (.reg [xf 0 27 0 5, xl 1 28 27, xm 2 29 0, xm 3 30 3, xm 4 31 6,
    ⟨5, some 32, none, .call .whole 98 [.t 29, .t 30, .t 31]⟩,
    ⟨1, none, none, .again 28 (.load none (.t 27))⟩,
    ⟨6, some 33, none, .litI 3 [.t 32]⟩,
    ⟨7, some 34, none, .app 3 40 (.t 28) (.t 33)⟩, xf 8 35 0 5,
    ⟨9, none, none, .store 1 (.t 35) (.t 34)⟩] [0, 2, 3, 5, 6]))
  (.reg [xm 0 25 6,
    ⟨1, some 26, none, .bin .add (.t 25) (.c (.int .i64 1))⟩, xm 2 6 26] [0, 2, 3, 5, 6])))
def l_73_1 : AC := b_73_1
theorem u_73_1 {A : Nat → Option AFn} {mt : Nat → Nat → Option Nat} {fr : Fr} {G : AG} {S : List KF} : evS A mt l_73_1 fr G S = evS A mt b_73_1 fr G S := rfl
/-- spec.l71Prog -/
def c_73 : AFn := ⟨1, 37, [2, 5], [.c 2 (some 1)],
  (.seq (.reg [⟨0, some 2, none, .allocP [.nils]⟩] [0, 2])
  (.seq (.reg [⟨0, some 7, none, .litO 1 [.c (.int .i64 0)]⟩, xm 1 3 7] [0, 2, 3])
  (.seq (.seq (.reg [xm 0 8 0,
    ⟨1, some 9, none, .call .whole 76 [.t 8, .c (.int .i64 3)]⟩,
    ⟨2, some 10, none, .bin .add (.c (.int .i64 1)) (.t 9)⟩, xm 3 4 10] [0, 2, 3, 4])
  (.block 0
  (.loop l_73_0)))
  (.seq (.reg [⟨0, some 20, none, .build [.nils] []⟩,
    ⟨1, some 5, none, .allocP [.nils]⟩,
    ⟨2, none, none, .store 1 (.t 5) (.t 20)⟩] [0, 2, 3, 5])
  (.seq (.seq (.reg [⟨0, some 6, none, .mv (.c (.int .i64 0))⟩] [0, 2, 3, 5, 6])
  (.block 2
  (.loop l_73_1)))
  (.seq (.reg [xL 0 36 1 5,
    ⟨1, none, none, .store 1 (.t 2) (.t 36)⟩,
    ⟨0, none, none, .fzb 2 0⟩] [2])
  .ret))))))⟩
/-- spec.HeapNew -/
def c_74 : AFn := ⟨1, 14, [1, 2], [.c 2 (some 5), .t 3],
  (.seq (.reg [⟨0, some 1, none, .boxP (.t 0)⟩,
    ⟨1, some 2, none, .allocP [.nils, .int .i64 0, .int .i64 0, .nils, .int .i64 0]⟩,
    ⟨2, some 3, none, .mv (.c (.bool false))⟩] [1, 2])
  (.seq (.seq (.reg [xL 0 4 1 1,
    ⟨1, some 5, none, .call (.alone false true) 54 [.t 4]⟩,
    ⟨2, some 6, none, .nt (.t 5)⟩] [1, 2, 6])
  (.cond (.t 6)
  (.seq (.reg [⟨0, some 7, none, .build [.nils, .int .i64 0, .int .i64 0, .nils, .int .i64 0] []⟩,
    ⟨1, none, none, .store 5 (.t 2) (.t 7)⟩,
    ⟨2, some 3, none, .mv (.c (.bool false))⟩] [2, 3])
  .ret)
  .skip))
  (.seq (.reg [xL 0 8 1 1,
    ⟨1, some 9, none, .litO 2 []⟩,
    ⟨2, some 10, none, .call (.alone false false) 99 [.t 8, .c (.int .i64 0), .t 9, .c (.int .i64 (-1))]⟩,
    ⟨3, some 11, none, .litO 6 [.t 10]⟩,
    ⟨4, some 12, none, .litO 2 []⟩,
    ⟨5, some 13, none, .build [.nils, .int .i64 0, .int .i64 0, .nils, .int .i64 0] [(0, 1, .t 11), (2, 1, .c (.int .i64 1)), (3, 1, .t 12)]⟩,
    ⟨6, none, none, .store 5 (.t 2) (.t 13)⟩,
    ⟨7, some 3, none, .mv (.c (.bool true))⟩] [2, 3])
  .ret)))⟩
def b_75_0 : AC := (.seq (.seq (.reg [xm 0 25 9, xm 1 26 2,
    ⟨2, some 27, none, .bin .lss (.t 25) (.t 26)⟩, xm 3 28 27,
    ⟨4, some 29, some (28, true), .mv (.t 8)⟩,
    ⟨5, some 30, some (28, true), .nilck (.t 29)⟩,
    ⟨6, some 31, some (28, true), .fld 1 (.t 30)⟩,
    ⟨7, some 32, some (28, true), .fld 4 (.t 31)⟩,
    ⟨8, some 33, some (28, true), .load none (.t 32)⟩,
    ⟨9, some 34, some (28, true), .bin .eql (.t 33) (.c (.int .i64 0))⟩,
    ⟨10, some 35, none, .pick (.t 28) (.t 34) (.c (.bool false))⟩] [2, 6, 8, 9, 35])
  (.cond (.t 35)
  .skip
  (.exit 0)))
  (.seq (.block 1
  (.reg [xm 0 38 8,
    ⟨1, some 39, none, .call .whole 101 [.t 38]⟩] [2, 6, 8, 9]))
  (.reg [xm 0 36 9,
    ⟨1, some 37, none, .bin .add (.t 36) (.c (.int .i64 1))⟩, xm 2 9 37] [2, 6, 8, 9])))
def l_75_0 : AC := b_75_0
theorem u_75_0 {A : Nat → Option AFn} {mt : Nat → Nat → Option Nat} {fr : Fr} {G : AG} {S : List KF} : evS A mt l_75_0 fr G S = evS A mt b_75_0 fr G S := rfl
/-- spec.HeapRun -/
def c_75 : AFn := ⟨3, 44, [3, 4, 6], [.c 6 (some 5), .t 7],
  (.seq (.reg [⟨0, some 3, none, .boxP (.t 0)⟩,
    ⟨1, some 4, none, .boxP (.t 1)⟩,
    ⟨2, some 6, none, .allocP [.nils, .int .i64 0, .int .i64 0, .nils, .int .i64 0]⟩,
    ⟨3, some 7, none, .mv (.c (.bool false))⟩] [2, 3, 4, 6])
  (.seq (.seq (.reg [xL 0 10 1 3, xL 1 11 5 4,
    ⟨2, some 12, none, .call (.alone false true) 25 [.t 10, .t 11]⟩,
    ⟨3, some 13, none, .nt (.t 12)⟩, xm 4 14 13,
    ⟨5, some 15, some (14, false), .mv (.t 2)⟩,
    ⟨6, some 16, some (14, false), .call (.alone false true) 55 [.t 15, .c (.int .i64 0), .c (.int .i64 400)]⟩,
    ⟨7, some 17, some (14, false), .nt (.t 16)⟩,
    ⟨8, some 18, none, .pick (.t 14) (.c (.bool true)) (.t 17)⟩] [2, 3, 4, 6, 18])
  (.cond (.t 18)
  (.seq (.reg [⟨0, some 19, none, .build [.nils, .int .i64 0, .int .i64 0, .nils, .int .i64 0] []⟩,
    ⟨1, none, none, .store 5 (.t 6) (.t 19)⟩,
    ⟨2, some 7, none, .mv (.c (.bool false))⟩] [6, 7])
  .ret)
  .skip))
  (.seq (.reg [xL 0 20 1 3, xL 1 21 5 4,
    ⟨2, some 22, none, .call (.alone false false) 100 [.t 21]⟩,
    ⟨0, none, none, .again 20 (.load (some 1) (.t 3))⟩,
    ⟨3, some 23, none, .build [.nils, .nils, .int .i64 0, .int .i64 0, .nils, .int .i64 0] [(0, 1, .t 20), (1, 5, .t 22)]⟩,
    ⟨4, some 24, none, .boxH (.t 23)⟩, xm 5 8 24] [2, 6, 8])
  (.seq (.seq (.reg [⟨0, some 9, none, .mv (.c (.int .i64 0))⟩] [2, 6, 8, 9])
  (.block 0
  (.loop l_75_0)))
  (.seq (.reg [xm 0 40 8, xn 1 41 40, xf 2 42 1 41, xL 3 43 5 42,
    ⟨4, none, none, .store 5 (.t 6) (.t 43)⟩,
    ⟨5, some 7, none, .mv (.c (.bool true))⟩] [6, 7])
  .ret)))))⟩
/-- (*spec.l6Rd).pick -/
def c_76 : AFn := ⟨2, 99, [], [.t 4],
  (.seq (.reg [⟨0, some 4, none, .mv (.c (.int .i64 0))⟩] [0, 1])
  (.seq (.reg [xm 0 7 0, xm 1 8 0, xn 2 9 8, xf 3 10 1 9, xl 4 11 10,
    ⟨5, some 12, none, .bin .add (.t 11) (.c (.int .i64 1))⟩, xn 6 13 7, xf 7 14 1 13,
    ⟨8, none, none, .store 1 (.t 14) (.t 12)⟩] [0, 1])
  (.seq (.seq (.reg [xm 0 15 1,
    ⟨1, some 16, none, .bin .lss (.t 15) (.c (.int .i64 1))⟩, xm 2 17 16,
    ⟨3, some 18, some (17, false), .mv (.t 0)⟩,
    ⟨4, some 19, some (17, false), .nilck (.t 18)⟩,
    ⟨5, some 20, some (17, false), .fld 0 (.t 19)⟩,
    ⟨6, some 21, some (17, false), .load none (.t 20)⟩,
    ⟨7, some 22, some (17, false), .len (.t 21)⟩,
    ⟨8, some 23, some (17, false), .bin .eql (.t 22) (.c (.int .i64 0))⟩,
    ⟨9, some 24, none, .pick (.t 17) (.c (.bool true)) (.t 23)⟩] [0, 1, 24])
  (.cond (.t 24)
  (.seq (.reg [⟨0, some 4, none, .mv (.c (.int .i64 0))⟩] [4])
  .ret)
  .skip))
  (.seq (.reg [xm 0 25 0, xn 1 26 25, xf 2 27 1 26, xl 3 28 27,
    ⟨4, some 29, none, .bin .sub (.t 28) (.c (.int .i64 1))⟩, xm 5 5 29] [0, 1, 5])
  (.seq (.seq (.reg [xm 0 30 5, xm 1 31 0, xn 2 32 31, xf 3 33 0 32, xl 4 34 33,
    ⟨5, some 35, none, .len (.t 34)⟩,
    ⟨6, some 36, none, .bin .lss (.t 30) (.t 35)⟩] [0, 1, 5, 36])
  (.cond (.t 36)
  (.seq (.reg [xm 0 37 0, xn 1 38 37, xf 2 39 0 38, xl 3 40 39, xm 4 41 5, xi 5 42 1 40 41, xl 6 43 42,
    ⟨7, some 44, none, .conv .i64 (.t 43)⟩, xm 8 45 1,
    ⟨9, some 46, none, .bin .rem (.t 44) (.t 45)⟩, xm 10 4 46] [4])
  .ret)
  .skip))
  (.seq (.reg [xm 0 47 0, xn 1 48 47, xf 2 49 0 48, xl 3 50 49, xm 4 51 5, xm 5 52 0, xn 6 53 52, xf 7 54 0 53, xl 8 55 54,
    ⟨9, some 56, none, .len (.t 55)⟩,
    ⟨10, some 57, none, .bin .rem (.t 51) (.t 56)⟩, xi 11 58 1 50 57, xl 12 59 58,
    ⟨13, some 60, none, .conv .i64 (.t 59)⟩,
    ⟨14, some 61, none, .bin .mul (.t 60) (.c (.int .i64 131))⟩, xm 15 62 0, xn 16 63 62, xf 17 64 0 63, xl 18 65 64, xm 19 66 5,
    ⟨20, some 67, none, .bin .mul (.t 66) (.c (.int .i64 7))⟩,
    ⟨21, some 68, none, .bin .add (.t 67) (.c (.int .i64 3))⟩, xm 22 69 0, xn 23 70 69, xf 24 71 0 70, xl 25 72 71,
    ⟨26, some 73, none, .len (.t 72)⟩,
    ⟨27, some 74, none, .bin .rem (.t 68) (.t 73)⟩, xi 28 75 1 65 74, xl 29 76 75,
    ⟨30, some 77, none, .conv .i64 (.t 76)⟩,
    ⟨31, some 78, none, .bin .mul (.t 77) (.c (.int .i64 1117))⟩,
    ⟨32, some 79, none, .bin .add (.t 61) (.t 78)⟩, xm 33 80 5,
    ⟨34, some 81, none, .bin .mul (.t 80) (.c (.int .i64 29))⟩,
    ⟨35, some 82, none, .bin .add (.t 79) (.t 81)⟩, xm 36 83 5, xm 37 84 0, xn 38 85 84, xf 39 86 0 85, xl 40 87 86,
    ⟨41, some 88, none, .len (.t 87)⟩,
    ⟨42, some 89, none, .bin .quo (.t 83) (.t 88)⟩,
    ⟨43, some 90, none, .bin .mul (.t 89) (.c (.int .i64 53))⟩,
    ⟨44, some 91, none, .bin .add (.t 82) (.t 90)⟩, xm 45 6 91] [1, 6])
  (.seq (.reg [xm 0 92 6, xm 1 93 6,
    ⟨2, some 94, none, .bin .quo (.t 93) (.c (.int .i64 64))⟩,
    ⟨3, some 95, none, .bin .xor (.t 92) (.t 94)⟩, xm 4 6 95] [1, 6])
  (.seq (.reg [xm 0 96 6, xm 1 97 1,
    ⟨2, some 98, none, .bin .rem (.t 96) (.t 97)⟩, xm 3 4 98] [4])
  .ret))))))))⟩
/-- (impl.Call).frame -/
def c_77 : AFn := ⟨2, 15, [2, 4], [.c 4 (some 5)],
  (.seq (.reg [⟨0, some 2, none, .boxP (.t 0)⟩,
    ⟨1, some 4, none, .allocP [.int .i64 0, .int .i64 0, .int .i64 0, .nils, .nils]⟩] [1, 2, 4])
  (.seq (.reg [xf 0 5 0 2, xl 1 6 5, xf 2 7 1 2, xl 3 8 7, xm 4 9 1, xf 5 10 2 2, xl 6 11 10, xf 7 12 3 2, xl 8 13 12,
    ⟨9, some 14, none, .build [.int .i64 0, .int .i64 0, .int .i64 0, .nils, .nils] [(0, 1, .t 6), (1, 1, .t 8), (2, 1, .t 9), (3, 1, .t 11), (4, 1, .t 13)]⟩,
    ⟨10, none, none, .store 5 (.t 4) (.t 14)⟩] [4])
  .ret))⟩
def b_78_0 : AC := (.seq (.reg [⟨0, some 10, none, .bin .lss (.t 9) (.t 8)⟩] [1, 8, 9, 10])
  (.seq (.cond (.t 10)
  .skip
  (.exit 0))
  (.seq (.block 1
  (.seq (.reg [xm 0 11 9, xm 1 3 11] [1, 3, 8, 9])
  (.seq (.reg [xf 0 12 2 1, xl 1 13 12, xm 2 14 3,
    ⟨3, some 15, none, .call (.alone false true) 102 [.t 13, .t 14]⟩,
    ⟨4, some 16, none, .nt (.t 15)⟩] [1, 8, 9, 16])
  (.cond (.t 16)
  (.seq (.reg [⟨0, some 2, none, .mv (.c (.bool false))⟩] [2])
  .ret)
  .skip))))
  (.reg [⟨0, some 17, none, .bin .add (.t 9) (.c (.int .i64 1))⟩, xm 1 9 17] [1, 8, 9]))))
def l_78_0 : AC := b_78_0
theorem u_78_0 {A : Nat → Option AFn} {mt : Nat → Nat → Option Nat} {fr : Fr} {G : AG} {S : List KF} : evS A mt l_78_0 fr G S = evS A mt b_78_0 fr G S := rfl
/-- (impl.Mach).ordered -/
def c_78 : AFn := ⟨1, 49, [1, 4], [.t 2],
  (.seq (.reg [⟨0, some 1, none, .boxP (.t 0)⟩,
    ⟨1, some 2, none, .mv (.c (.bool false))⟩] [1])
  (.seq (.seq (.reg [xf 0 6 1 1, xl 1 7 6,
    ⟨2, some 8, none, .len (.t 7)⟩,
    ⟨3, some 9, none, .mv (.c (.int .i64 0))⟩] [1, 8, 9])
  (.block 0
  (.loop l_78_0)))
  (.seq (.seq (.reg [xf 0 18 2 1, xl 1 19 18,
    ⟨2, some 20, none, .len (.t 19)⟩, xf 3 21 1 1, xl 4 22 21,
    ⟨5, some 23, none, .len (.t 22)⟩,
    ⟨6, some 24, none, .bin .neq (.t 20) (.t 23)⟩] [1, 24])
  (.cond (.t 24)
  (.seq (.reg [⟨0, some 2, none, .mv (.c (.bool false))⟩] [2])
  .ret)
  .skip))
  (.seq (.reg [xL 0 26 8 1,
    ⟨1, some 27, none, .call (.alone false true) 52 [.t 26]⟩, xm 2 25 27,
    ⟨3, some 28, none, .ext (.t 25) 0⟩,
    ⟨4, some 29, none, .ext (.t 25) 1⟩,
    ⟨5, some 4, none, .allocP [.int .i64 0, .int .i64 0]⟩,
    ⟨6, none, none, .store 2 (.t 4) (.t 28)⟩, xm 7 5 29] [1, 5])
  (.seq (.reg [xf 0 30 3 1, xl 1 31 30,
    ⟨2, some 32, none, .bin .eql (.t 31) (.c (.int .i64 (-1)))⟩, xm 3 33 32,
    ⟨4, some 34, some (33, false), .mv (.t 5)⟩,
    ⟨5, some 35, some (33, false), .mv (.t 34)⟩,
    ⟨6, some 36, some (35, true), .fld 2 (.t 1)⟩,
    ⟨7, some 37, some (35, true), .load none (.t 36)⟩,
    ⟨8, some 38, some (35, true), .fld 2 (.t 1)⟩,
    ⟨9, some 39, some (35, true), .load none (.t 38)⟩,
    ⟨10, some 40, some (35, true), .len (.t 39)⟩,
    ⟨11, some 41, some (35, true), .bin .sub (.t 40) (.c (.int .i64 1))⟩,
    ⟨12, some 42, some (35, true), .idx 1 (.t 37) (.t 41)⟩,
    ⟨13, some 43, some (35, true), .load none (.t 42)⟩,
    ⟨14, some 44, some (35, true), .fld 3 (.t 1)⟩,
    ⟨15, some 45, some (35, true), .load none (.t 44)⟩,
    ⟨16, some 46, some (35, true), .bin .eql (.t 43) (.t 45)⟩,
    ⟨17, some 47, some (33, false), .pick (.t 35) (.t 46) (.c (.bool false))⟩,
    ⟨18, some 48, none, .pick (.t 33) (.c (.bool true)) (.t 47)⟩, xm 19 2 48] [2])
  .ret)))))⟩
def b_79_0 : AC := (.seq (.reg [⟨0, some 82, none, .bin .lss (.t 81) (.t 80)⟩] [2, 3, 5, 6, 20, 21, 22, 79, 80, 81, 82])
  (.seq (.cond (.t 82)
  .skip
  (.exit 2))
  (.seq (.block 3
  (.seq (.reg [xm 0 83 81, xi 1 84 5 79 81, xL 2 85 5 84,
    ⟨3, some 11, none, .allocP [.int .i64 0, .int .i64 0, .int .i64 0, .nils, .nils]⟩, xm 4 10 83,
    ⟨5, none, none, .store 5 (.t 11) (.t 85)⟩] [2, 3, 5, 6, 10, 11, 20, 21, 22, 79, 80, 81])
  (.seq (.seq (.reg [xL 0 86 5 11, xL 2 88 1 3,
    ⟨1, some 87, none, .call (.alone false true) 81 [.t 86, .c (.int .i64 (-1))]⟩,
    ⟨2, none, none, .again 88 (.load (some 1) (.t 3))⟩, xm 3 89 5,
    ⟨4, some 90, none, .call (.alone false true) 68 [.t 87, .t 88, .t 89]⟩,
    ⟨5, some 91, none, .nt (.t 90)⟩, xm 6 92 91,
    ⟨7, some 93, some (92, false), .fld 2 (.t 11)⟩,
    ⟨8, some 94, some (92, false), .load none (.t 93)⟩,
    ⟨9, some 95, some (92, false), .mv (.t 5)⟩,
    ⟨10, some 96, some (92, false), .bin .sub (.t 95) (.c (.int .i64 1))⟩,
    ⟨11, some 97, some (92, false), .call (.alone false true) 66 [.t 94, .c (.int .i64 (-1)), .t 96]⟩,
    ⟨12, some 98, some (92, false), .nt (.t 97)⟩,
    ⟨13, some 99, none, .pick (.t 92) (.c (.bool true)) (.t 98)⟩] [2, 3, 5, 6, 10, 11, 20, 21, 22, 79, 80, 81, 99])
  (.cond (.t 99)
  (.seq (.reg [⟨0, some 4, none, .mv (.c (.bool false))⟩] [4])
  .ret)
  .skip))
  (.seq (.reg [xf 0 100 2 11, xl 1 101 100,
    ⟨2, some 102, none, .bin .geq (.t 101) (.c (.int .i64 0))⟩, xm 3 103 102,
    ⟨4, some 104, some (103, true), .fld 4 (.t 2)⟩,
    ⟨5, some 105, some (103, true), .load none (.t 104)⟩,
    ⟨6, some 106, some (103, true), .fld 2 (.t 11)⟩,
    ⟨7, some 107, some (103, true), .load none (.t 106)⟩,
    ⟨8, some 108, some (103, true), .idx 8 (.t 105) (.t 107)⟩,
    ⟨9, some 109, some (103, true), .fld 0 (.t 108)⟩,
    ⟨10, some 110, some (103, true), .load none (.t 109)⟩,
    ⟨11, some 111, some (103, true), .mv (.t 6)⟩,
    ⟨12, some 112, some (103, true), .bin .neq (.t 110) (.t 111)⟩,
    ⟨13, some 113, some (103, true), .mv (.t 112)⟩,
    ⟨14, some 114, some (113, false), .fld 4 (.t 2)⟩,
    ⟨15, some 115, some (113, false), .load none (.t 114)⟩,
    ⟨16, some 116, some (113, false), .fld 2 (.t 11)⟩,
    ⟨17, some 117, some (113, false), .load none (.t 116)⟩,
    ⟨18, some 118, some (113, false), .idx 8 (.t 115) (.t 117)⟩,
    ⟨19, some 119, some (113, false), .fld 1 (.t 118)⟩,
    ⟨20, some 120, some (113, false), .load none (.t 119)⟩,
    ⟨21, some 121, some (113, false), .mv (.t 10)⟩,
    ⟨22, some 122, some (113, false), .bin .neq (.t 120) (.t 121)⟩,
    ⟨23, some 123, some (103, true), .pick (.t 113) (.c (.bool true)) (.t 122)⟩,
    ⟨24, some 124, none, .pick (.t 103) (.t 123) (.c (.bool false))⟩] [2, 3, 5, 6, 20, 21, 22, 79, 80, 81, 124])
  (.cond (.t 124)
  (.seq (.reg [⟨0, some 4, none, .mv (.c (.bool false))⟩] [4])
  .ret)
  .skip)))))
  (.reg [⟨0, some 125, none, .bin .add (.t 81) (.c (.int .i64 1))⟩, xm 1 81 125] [2, 3, 5, 6, 20, 21, 22, 79, 80, 81]))))
def l_79_0 : AC := b_79_0
theorem u_79_0 {A : Nat → Option AFn} {mt : Nat → Nat → Option Nat} {fr : Fr} {G : AG} {S : List KF} : evS A mt l_79_0 fr G S = evS A mt b_79_0 fr G S := rfl
def b_79_1 : AC := (.seq (.reg [⟨0, some 23, none, .bin .lss (.t 22) (.t 21)⟩] [2, 3, 5, 20, 21, 22, 23])
  (.seq (.cond (.t 23)
  .skip
  (.exit 0))
  (.seq (.block 1
  (.seq (.reg [xm 0 24 22, xi 1 25 2 20 22, xL 2 26 2 25,
    ⟨3, some 7, none, .allocP [.int .i64 0, .nils]⟩, xm 4 6 24,
    ⟨5, none, none, .store 2 (.t 7) (.t 26)⟩] [2, 3, 5, 6, 7, 20, 21, 22])
  (.seq (.seq (.reg [xf 0 27 0 7, xl 1 28 27, xm 2 29 5,
    ⟨3, some 30, none, .bin .sub (.t 29) (.c (.int .i64 1))⟩,
    ⟨4, some 31, none, .call (.alone false true) 66 [.t 28, .c (.int .i64 (-1)), .t 30]⟩,
    ⟨5, some 32, none, .nt (.t 31)⟩, xm 6 33 32,
    ⟨7, some 34, some (33, false), .fld 1 (.t 7)⟩,
    ⟨8, some 35, some (33, false), .load none (.t 34)⟩,
    ⟨9, some 36, some (33, false), .len (.t 35)⟩,
    ⟨10, some 37, some (33, false), .bin .eql (.t 36) (.c (.int .i64 0))⟩,
    ⟨11, some 38, some (33, false), .mv (.t 37)⟩,
    ⟨12, some 39, some (38, true), .fld 0 (.t 7)⟩,
    ⟨13, some 40, some (38, true), .load none (.t 39)⟩,
    ⟨14, some 41, some (38, true), .bin .neq (.t 40) (.c (.int .i64 (-1)))⟩,
    ⟨15, some 42, some (33, false), .pick (.t 38) (.t 41) (.c (.bool false))⟩,
    ⟨16, some 43, none, .pick (.t 33) (.c (.bool true)) (.t 42)⟩, xm 17 44 43,
    ⟨18, some 45, some (44, false), .load (some 2) (.t 7)⟩,
    ⟨20, some 47, some (44, false), .fld 0 (.t 2)⟩,
    ⟨21, some 48, some (44, false), .load none (.t 47)⟩,
    ⟨19, some 46, some (44, false), .call (.alone false true) 103 [.t 45]⟩,
    ⟨21, none, some (44, false), .again 48 (.load none (.t 47))⟩,
    ⟨22, some 49, some (44, false), .bin .gtr (.t 46) (.t 48)⟩,
    ⟨23, some 50, none, .pick (.t 44) (.c (.bool true)) (.t 49)⟩] [2, 3, 5, 6, 7, 20, 21, 22, 50])
  (.cond (.t 50)
  (.seq (.reg [⟨0, some 4, none, .mv (.c (.bool false))⟩] [4])
  .ret)
  .skip))
  (.seq (.seq (.reg [xL 0 52 8 2, xf 1 53 0 7, xl 2 54 53,
    ⟨3, some 55, none, .call (.alone false true) 85 [.t 52, .t 54]⟩, xm 4 51 55,
    ⟨5, some 56, none, .ext (.t 51) 0⟩,
    ⟨6, some 57, none, .ext (.t 51) 1⟩,
    ⟨7, some 8, none, .allocP [.int .i64 0, .int .i64 0]⟩,
    ⟨8, none, none, .store 2 (.t 8) (.t 56)⟩, xm 9 9 57] [2, 3, 5, 6, 7, 8, 9, 20, 21, 22])
  (.seq (.reg [xm 0 58 9, xm 1 59 58,
    ⟨2, some 60, some (59, true), .fld 0 (.t 8)⟩,
    ⟨3, some 61, some (59, true), .load none (.t 60)⟩,
    ⟨4, some 62, some (59, true), .bin .geq (.t 61) (.c (.int .i64 0))⟩,
    ⟨5, some 63, none, .pick (.t 59) (.t 62) (.c (.bool false))⟩, xm 6 64 63,
    ⟨7, some 65, some (64, true), .fld 1 (.t 8)⟩,
    ⟨8, some 66, some (64, true), .load none (.t 65)⟩,
    ⟨9, some 67, some (64, true), .fld 1 (.t 2)⟩,
    ⟨10, some 68, some (64, true), .load none (.t 67)⟩,
    ⟨11, some 69, some (64, true), .fld 0 (.t 8)⟩,
    ⟨12, some 70, some (64, true), .load none (.t 69)⟩,
    ⟨13, some 71, some (64, true), .idx 2 (.t 68) (.t 70)⟩,
    ⟨14, some 72, some (64, true), .fld 1 (.t 71)⟩,
    ⟨15, some 73, some (64, true), .load none (.t 72)⟩,
    ⟨16, some 74, some (64, true), .len (.t 73)⟩,
    ⟨17, some 75, some (64, true), .bin .sub (.t 74) (.c (.int .i64 1))⟩,
    ⟨18, some 76, some (64, true), .bin .neq (.t 66) (.t 75)⟩,
    ⟨19, some 77, none, .pick (.t 64) (.t 76) (.c (.bool false))⟩] [2, 3, 5, 6, 7, 20, 21, 22, 77])
  (.cond (.t 77)
  (.seq (.reg [⟨0, some 4, none, .mv (.c (.bool false))⟩] [4])
  .ret)
  .skip)))
  (.seq (.reg [xf 0 78 1 7, xl 1 79 78,
    ⟨2, some 80, none, .len (.t 79)⟩,
    ⟨3, some 81, none, .mv (.c (.int .i64 0))⟩] [2, 3, 5, 6, 20, 21, 22, 79, 80, 81])
  (.block 2
  (.loop l_79_0)))))))
  (.reg [⟨0, some 126, none, .bin .add (.t 22) (.c (.int .i64 1))⟩, xm 1 22 126] [2, 3, 5, 20, 21, 22]))))
def l_79_1 : AC := b_79_1
theorem u_79_1 {A : Nat → Option AFn} {mt : Nat → Nat → Option Nat} {fr : Fr} {G : AG} {S : List KF} : evS A mt l_79_1 fr G S = evS A mt b_79_1 fr G S := rfl
def b_79_2 : AC := (.seq (.reg [⟨0, some 131, none, .bin .lss (.t 130) (.t 129)⟩] [2, 3, 5, 128, 129, 130, 131])
  (.seq (.cond (.t 131)
  .skip
  (.exit 4))
  (.seq (.block 5
  (.seq (.reg [xm 0 132 130, xi 1 133 8 128 130, xL 2 134 8 133,
    ⟨3, some 13, none, .allocP [.int .i64 0, .int .i64 0, .int .i64 0, .int .i64 0, .nils, .nils, .int .i64 0, .bool false]⟩, xm 4 12 132,
    ⟨5, none, none, .store 8 (.t 13) (.t 134)⟩] [2, 3, 5, 12, 13, 128, 129, 130])
  (.seq (.reg [xL 0 136 8 2, xm 1 137 12,
    ⟨2, some 138, none, .call (.alone false true) 85 [.t 136, .t 137]⟩, xm 3 135 138,
    ⟨4, some 139, none, .ext (.t 135) 0⟩,
    ⟨5, some 140, none, .ext (.t 135) 1⟩,
    ⟨6, some 14, none, .allocP [.int .i64 0, .int .i64 0]⟩,
    ⟨7, none, none, .store 2 (.t 14) (.t 139)⟩, xm 8 15 140] [2, 3, 5, 12, 13, 14, 15, 128, 129, 130])
  (.block 6
  (.seq (.reg [xm 0 142 15,
    ⟨1, some 143, none, .nt (.t 142)⟩, xm 2 141 143] [2, 3, 5, 12, 13, 14, 128, 129, 130, 141])
  (.cond (.t 141)
  (.seq (.reg [⟨0, some 4, none, .mv (.c (.bool false))⟩] [4])
  .ret)
  (.seq (.reg [xf 0 145 0 14, xl 1 146 145,
    ⟨2, some 147, none, .bin .lss (.t 146) (.c (.int .i64 0))⟩, xm 3 148 147,
    ⟨4, some 149, some (148, true), .fld 0 (.t 13)⟩,
    ⟨5, some 150, some (148, true), .load none (.t 149)⟩,
    ⟨6, some 151, some (148, true), .bin .neq (.t 150) (.c (.int .i64 (-1)))⟩,
    ⟨7, some 152, some (148, true), .mv (.t 151)⟩,
    ⟨8, some 153, some (152, false), .fld 1 (.t 13)⟩,
    ⟨9, some 154, some (152, false), .load none (.t 153)⟩,
    ⟨10, some 155, some (152, false), .bin .neq (.t 154) (.c (.int .i64 0))⟩,
    ⟨11, some 156, some (148, true), .pick (.t 152) (.c (.bool true)) (.t 155)⟩,
    ⟨12, some 157, some (148, true), .mv (.t 156)⟩,
    ⟨13, some 158, some (157, false), .fld 2 (.t 13)⟩,
    ⟨14, some 159, some (157, false), .load (some 6) (.t 158)⟩,
    ⟨15, some 160, some (157, false), .load (some 1) (.t 3)⟩,
    ⟨16, some 161, some (157, false), .mv (.t 5)⟩,
    ⟨17, some 162, some (157, false), .call (.alone false true) 68 [.t 159, .t 160, .t 161]⟩,
    ⟨18, some 163, some (157, false), .nt (.t 162)⟩,
    ⟨19, some 164, some (148, true), .pick (.t 157) (.c (.bool true)) (.t 163)⟩,
    ⟨20, some 165, none, .pick (.t 148) (.t 164) (.c (.bool false))⟩, xm 21 144 165] [2, 3, 5, 12, 13, 14, 128, 129, 130, 144])
  (.cond (.t 144)
  (.seq (.reg [⟨0, some 4, none, .mv (.c (.bool false))⟩] [4])
  .ret)
  (.seq (.reg [xf 0 167 0 14, xl 1 168 167,
    ⟨2, some 169, none, .bin .geq (.t 168) (.c (.int .i64 0))⟩, xm 3 170 169,
    ⟨4, some 171, some (170, true), .fld 2 (.t 13)⟩,
    ⟨5, some 172, some (170, true), .load (some 6) (.t 171)⟩,
    ⟨6, some 173, some (170, true), .call (.alone false true) 104 [.t 172]⟩,
    ⟨7, some 174, some (170, true), .nt (.t 173)⟩,
    ⟨8, some 175, some (170, true), .mv (.t 174)⟩,
    ⟨9, some 176, some (175, false), .fld 1 (.t 2)⟩,
    ⟨10, some 177, some (175, false), .load none (.t 176)⟩,
    ⟨11, some 178, some (175, false), .fld 0 (.t 14)⟩,
    ⟨12, some 179, some (175, false), .load none (.t 178)⟩,
    ⟨13, some 180, some (175, false), .idx 2 (.t 177) (.t 179)⟩,
    ⟨14, some 181, some (175, false), .fld 1 (.t 180)⟩,
    ⟨15, some 182, some (175, false), .load none (.t 181)⟩,
    ⟨16, some 183, some (175, false), .fld 1 (.t 14)⟩,
    ⟨17, some 184, some (175, false), .load none (.t 183)⟩,
    ⟨18, some 185, some (175, false), .idx 5 (.t 182) (.t 184)⟩,
    ⟨19, some 186, some (175, false), .fld 2 (.t 185)⟩,
    ⟨20, some 187, some (175, false), .load none (.t 186)⟩,
    ⟨21, some 188, some (175, false), .mv (.t 12)⟩,
    ⟨22, some 189, some (175, false), .bin .neq (.t 187) (.t 188)⟩,
    ⟨23, some 190, some (170, true), .pick (.t 175) (.c (.bool true)) (.t 189)⟩,
    ⟨24, some 191, none, .pick (.t 170) (.t 190) (.c (.bool false))⟩, xm 25 166 191] [2, 3, 5, 128, 129, 130, 166])
  (.cond (.t 166)
  (.seq (.reg [⟨0, some 4, none, .mv (.c (.bool false))⟩] [4])
  .ret)
  .skip))))))))))
  (.reg [⟨0, some 192, none, .bin .add (.t 130) (.c (.int .i64 1))⟩, xm 1 130 192] [2, 3, 5, 128, 129, 130]))))
def l_79_2 : AC := b_79_2
theorem u_79_2 {A : Nat → Option AFn} {mt : Nat → Nat → Option Nat} {fr : Fr} {G : AG} {S : List KF} : evS A mt l_79_2 fr G S = evS A mt b_79_2 fr G S := rfl
/-- (impl.Mach).shaped -/
def c_79 : AFn := ⟨2, 193, [2, 3, 7, 8, 11, 13, 14], [.t 4],
  (.seq (.reg [⟨0, some 2, none, .boxP (.t 0)⟩,
    ⟨1, some 3, none, .boxP (.t 1)⟩,
    ⟨2, some 4, none, .mv (.c (.bool false))⟩] [2, 3])
  (.seq (.reg [xf 0 16 4 2, xl 1 17 16,
    ⟨2, some 18, none, .len (.t 17)⟩, xm 3 5 18] [2, 3, 5])
  (.seq (.seq (.reg [xf 0 19 1 2, xl 1 20 19,
    ⟨2, some 21, none, .len (.t 20)⟩,
    ⟨3, some 22, none, .mv (.c (.int .i64 0))⟩] [2, 3, 5, 20, 21, 22])
  (.block 0
  (.loop l_79_1)))
  (.seq (.seq (.reg [xf 0 127 4 2, xl 1 128 127,
    ⟨2, some 129, none, .len (.t 128)⟩,
    ⟨3, some 130, none, .mv (.c (.int .i64 0))⟩] [2, 3, 5, 128, 129, 130])
  (.block 4
  (.loop l_79_2)))
  (.seq (.reg [⟨0, some 4, none, .mv (.c (.bool true))⟩] [4])
  .ret)))))⟩
def b_80_0 : AC := (.seq (.reg [⟨0, some 16, none, .bin .lss (.t 15) (.t 14)⟩] [1, 3, 13, 14, 15, 16])
  (.seq (.cond (.t 16)
  .skip
  (.exit 0))
  (.seq (.block 1
  (.seq (.reg [xi 0 17 8 13 15, xL 1 18 8 17,
    ⟨2, some 5, none, .allocP [.int .i64 0, .int .i64 0, .int .i64 0, .int .i64 0, .nils, .nils, .int .i64 0, .bool false]⟩,
    ⟨3, none, none, .store 8 (.t 5) (.t 18)⟩] [1, 3, 5, 13, 14, 15])
  (.seq (.reg [xf 0 19 0 5, xl 1 20 19,
    ⟨2, some 21, none, .bin .eql (.t 20) (.c (.int .i64 (-1)))⟩, xm 3 22 21,
    ⟨4, some 23, some (22, true), .fld 2 (.t 5)⟩,
    ⟨5, some 24, some (22, true), .fld 5 (.t 23)⟩,
    ⟨6, some 25, some (22, true), .load none (.t 24)⟩,
    ⟨7, some 26, some (22, true), .nt (.t 25)⟩,
    ⟨8, some 27, none, .pick (.t 22) (.t 26) (.c (.bool false))⟩] [1, 3, 13, 14, 15, 27])
  (.cond (.t 27)
  (.reg [xm 0 28 3,
    ⟨1, some 29, none, .bin .add (.t 28) (.c (.int .i64 1))⟩, xm 2 3 29] [1, 3, 13, 14, 15])
  .skip))))
  (.reg [⟨0, some 30, none, .bin .add (.t 15) (.c (.int .i64 1))⟩, xm 1 15 30] [1, 3, 13, 14, 15]))))
def l_80_0 : AC := b_80_0
theorem u_80_0 {A : Nat → Option AFn} {mt : Nat → Nat → Option Nat} {fr : Fr} {G : AG} {S : List KF} : evS A mt l_80_0 fr G S = evS A mt b_80_0 fr G S := rfl
def b_80_1 : AC := (.seq (.seq (.reg [xm 0 36 7] [1, 3, 6, 8, 36])
  (.cond (.t 36)
  .skip
  (.exit 2)))
  (.seq (.block 3
  (.seq (.reg [xL 0 37 8 1, xL 1 38 2 6,
    ⟨2, some 39, none, .call (.alone false true) 53 [.t 37, .t 38]⟩,
    ⟨3, some 9, none, .allocP [.int .i64 0, .int .i64 0, .nils, .nils, .int .i64 0, .bool false]⟩,
    ⟨4, none, none, .store 6 (.t 9) (.t 39)⟩] [1, 3, 6, 8, 9])
  (.seq (.reg [xm 0 40 3,
    ⟨1, some 41, none, .bin .sub (.t 40) (.c (.int .i64 1))⟩, xm 2 3 41] [1, 3, 6, 8, 9])
  (.seq (.seq (.reg [xm 0 42 3,
    ⟨1, some 43, none, .bin .lss (.t 42) (.c (.int .i64 0))⟩, xm 2 44 43,
    ⟨3, some 45, some (44, false), .fld 5 (.t 9)⟩,
    ⟨4, some 46, some (44, false), .load none (.t 45)⟩,
    ⟨5, some 47, none, .pick (.t 44) (.c (.bool true)) (.t 46)⟩, xm 6 48 47,
    ⟨7, some 49, some (48, false), .mv (.t 8)⟩,
    ⟨8, some 50, some (48, false), .nt (.t 49)⟩,
    ⟨9, some 51, some (48, false), .mv (.t 50)⟩,
    ⟨10, some 52, some (51, true), .fld 3 (.t 9)⟩,
    ⟨11, some 53, some (51, true), .load none (.t 52)⟩,
    ⟨12, some 54, some (51, true), .len (.t 53)⟩,
    ⟨13, some 55, some (51, true), .bin .eql (.t 54) (.c (.int .i64 6))⟩,
    ⟨14, some 56, some (48, false), .pick (.t 51) (.t 55) (.c (.bool false))⟩,
    ⟨15, some 57, none, .pick (.t 48) (.c (.bool true)) (.t 56)⟩] [1, 3, 6, 57])
  (.cond (.t 57)
  (.seq (.reg [⟨0, some 2, none, .mv (.c (.bool false))⟩] [2])
  .ret)
  .skip))
  (.reg [xL 0 59 8 1, xL 1 60 2 6,
    ⟨2, some 61, none, .call (.alone false true) 59 [.t 59, .t 60]⟩, xm 3 58 61,
    ⟨4, some 62, none, .ext (.t 58) 0⟩,
    ⟨5, some 63, none, .ext (.t 58) 1⟩,
    ⟨6, some 64, none, .ext (.t 58) 2⟩,
    ⟨7, none, none, .store 2 (.t 6) (.t 62)⟩, xm 8 7 63] [1, 3, 6, 7])))))
  (.reg [⟨0, some 8, none, .mv (.c (.bool false))⟩] [1, 3, 6, 7, 8])))
def l_80_1 : AC := b_80_1
theorem u_80_1 {A : Nat → Option AFn} {mt : Nat → Nat → Option Nat} {fr : Fr} {G : AG} {S : List KF} : evS A mt l_80_1 fr G S = evS A mt b_80_1 fr G S := rfl
/-- (impl.Mach).chained -/
def c_80 : AFn := ⟨1, 67, [1, 5, 6, 9], [.t 2],
  (.seq (.reg [⟨0, some 1, none, .boxP (.t 0)⟩,
    ⟨1, some 2, none, .mv (.c (.bool false))⟩] [1])
  (.seq (.reg [xL 0 10 8 1,
    ⟨1, some 11, none, .call (.alone false true) 105 [.t 10]⟩, xm 2 3 11] [1, 3])
  (.seq (.seq (.reg [xf 0 12 4 1, xl 1 13 12,
    ⟨2, some 14, none, .len (.t 13)⟩,
    ⟨3, some 15, none, .mv (.c (.int .i64 0))⟩] [1, 3, 13, 14, 15])
  (.block 0
  (.loop l_80_0)))
  (.seq (.reg [xL 0 32 8 1,
    ⟨1, some 33, none, .call (.alone false true) 52 [.t 32]⟩, xm 2 31 33,
    ⟨3, some 34, none, .ext (.t 31) 0⟩,
    ⟨4, some 35, none, .ext (.t 31) 1⟩,
    ⟨5, some 6, none, .allocP [.int .i64 0, .int .i64 0]⟩,
    ⟨6, none, none, .store 2 (.t 6) (.t 34)⟩, xm 7 7 35] [1, 3, 6, 7])
  (.seq (.seq (.reg [⟨0, some 8, none, .mv (.c (.bool true))⟩] [1, 3, 6, 7, 8])
  (.block 2
  (.loop l_80_1)))
  (.seq (.reg [xm 0 65 3,
    ⟨1, some 66, none, .bin .eql (.t 65) (.c (.int .i64 0))⟩, xm 2 2 66] [2])
  .ret))))))⟩
/-- (impl.Frame).call -/
def c_81 : AFn := ⟨2, 15, [2, 4], [.c 4 (some 6)],
  (.seq (.reg [⟨0, some 2, none, .boxP (.t 0)⟩,
    ⟨1, some 4, none, .allocP [.int .i64 0, .int .i64 0, .nils, .nils, .int .i64 0, .bool false]⟩] [1, 2, 4])
  (.seq (.reg [xf 0 5 0 2, xl 1 6 5, xf 2 7 1 2, xl 3 8 7, xf 4 9 3 2, xl 5 10 9, xf 6 11 4 2, xl 7 12 11, xm 8 13 1,
    ⟨9, some 14, none, .build [.int .i64 0, .int .i64 0, .nils, .nils, .int .i64 0, .bool false] [(0, 1, .t 6), (1, 1, .t 8), (2, 1, .t 10), (3, 1, .t 12), (4, 1, .t 13), (5, 1, .c (.bool false))]⟩,
    ⟨10, none, none, .store 6 (.t 4) (.t 14)⟩] [4])
  .ret))⟩
def b_82_0 : AC := (.seq (.seq (.reg [xm 0 24 5, xf 1 25 2 3, xl 2 26 25,
    ⟨3, some 27, none, .len (.t 26)⟩,
    ⟨4, some 28, none, .bin .lss (.t 24) (.t 27)⟩] [2, 3, 5, 28])
  (.cond (.t 28)
  .skip
  (.exit 0)))
  (.seq (.block 1
  (.seq (.reg [xL 0 31 1 2, xL 1 32 3 3, xf 2 33 2 3, xl 3 34 33, xm 4 35 5, xi 5 36 2 34 35, xL 6 37 2 36,
    ⟨7, some 38, none, .call (.alone false true) 106 [.t 31, .t 32, .t 37]⟩,
    ⟨8, some 39, none, .nt (.t 38)⟩] [2, 3, 5, 39])
  (.cond (.t 39)
  (.seq (.reg [⟨0, some 4, none, .mv (.c (.bool false))⟩] [4])
  .ret)
  .skip)))
  (.reg [xm 0 29 5,
    ⟨1, some 30, none, .bin .add (.t 29) (.c (.int .i64 1))⟩, xm 2 5 30] [2, 3, 5])))
def l_82_0 : AC := b_82_0
theorem u_82_0 {A : Nat → Option AFn} {mt : Nat → Nat → Option Nat} {fr : Fr} {G : AG} {S : List KF} : evS A mt l_82_0 fr G S = evS A mt b_82_0 fr G S := rfl
/-- spec.l1Method -/
def c_82 : AFn := ⟨2, 40, [2, 3], [.t 4],
  (.seq (.reg [⟨0, some 2, none, .boxP (.t 0)⟩,
    ⟨1, some 3, none, .boxP (.t 1)⟩,
    ⟨2, some 4, none, .mv (.c (.bool false))⟩] [2, 3])
  (.seq (.seq (.reg [xf 0 6 0 3, xl 1 7 6,
    ⟨2, some 8, none, .call (.alone false true) 55 [.t 7, .c (.int .i64 0), .c (.int .i64 2)]⟩,
    ⟨3, some 9, none, .nt (.t 8)⟩, xm 4 10 9,
    ⟨5, some 11, some (10, false), .fld 1 (.t 3)⟩,
    ⟨6, some 12, some (10, false), .load none (.t 11)⟩,
    ⟨7, some 13, some (10, false), .fld 0 (.t 3)⟩,
    ⟨8, some 14, some (10, false), .load none (.t 13)⟩,
    ⟨9, some 15, some (10, false), .call (.alone false true) 55 [.t 12, .t 14, .c (.int .i64 4)]⟩,
    ⟨10, some 16, some (10, false), .nt (.t 15)⟩,
    ⟨11, some 17, none, .pick (.t 10) (.c (.bool true)) (.t 16)⟩, xm 12 18 17,
    ⟨13, some 19, some (18, false), .fld 2 (.t 3)⟩,
    ⟨14, some 20, some (18, false), .load none (.t 19)⟩,
    ⟨15, some 21, some (18, false), .len (.t 20)⟩,
    ⟨16, some 22, some (18, false), .bin .gtr (.t 21) (.c (.int .i64 14))⟩,
    ⟨17, some 23, none, .pick (.t 18) (.c (.bool true)) (.t 22)⟩] [2, 3, 23])
  (.cond (.t 23)
  (.seq (.reg [⟨0, some 4, none, .mv (.c (.bool false))⟩] [4])
  .ret)
  .skip))
  (.seq (.seq (.reg [⟨0, some 5, none, .mv (.c (.int .i64 0))⟩] [2, 3, 5])
  (.block 0
  (.loop l_82_0)))
  (.seq (.reg [⟨0, some 4, none, .mv (.c (.bool true))⟩] [4])
  .ret))))⟩
/-- spec.l11Val -/
def c_83 : AFn := ⟨2, 24, [2], [.t 4],
  (.seq (.reg [⟨0, some 2, none, .boxP (.t 0)⟩,
    ⟨1, some 4, none, .mv (.c (.bool false))⟩] [1, 2])
  (.seq (.seq (.reg [xf 0 5 0 2, xl 1 6 5] [1, 2, 6])
  (.block 0
  (.seq (.reg [⟨0, some 8, none, .bin .eql (.t 6) (.c (.int .i64 0))⟩, xm 1 7 8] [1, 2, 6, 7])
  (.cond (.t 7)
  (.seq (.reg [xf 0 9 1 2, xl 1 10 9,
    ⟨2, some 11, none, .bin .eql (.t 10) (.c (.int .i64 0))⟩, xm 3 4 11] [4])
  .ret)
  (.seq (.reg [⟨0, some 13, none, .bin .eql (.t 6) (.c (.int .i64 1))⟩, xm 1 12 13] [1, 2, 6, 12])
  (.cond (.t 12)
  (.seq (.reg [xf 0 14 1 2, xl 1 15 14,
    ⟨2, some 16, none, .call (.alone false true) 55 [.t 15, .c (.int .i64 0), .c (.int .i64 999)]⟩, xm 3 4 16] [4])
  .ret)
  (.seq (.reg [⟨0, some 18, none, .bin .eql (.t 6) (.c (.int .i64 2))⟩, xm 1 17 18] [1, 2, 17])
  (.cond (.t 17)
  (.seq (.reg [xf 0 19 1 2, xl 1 20 19, xm 2 21 1,
    ⟨3, some 22, none, .bin .sub (.t 21) (.c (.int .i64 1))⟩,
    ⟨4, some 23, none, .call (.alone false true) 55 [.t 20, .c (.int .i64 0), .t 22]⟩, xm 5 4 23] [4])
  .ret)
  .skip))))))))
  (.seq (.reg [⟨0, some 4, none, .mv (.c (.bool false))⟩] [4])
  .ret)))⟩
def b_84_0 : AC := (.seq (.seq (.reg [xm 0 6 5, xm 1 7 0,
    ⟨2, some 8, none, .len (.t 7)⟩,
    ⟨3, some 9, none, .bin .lss (.t 6) (.t 8)⟩] [0, 1, 5, 9])
  (.cond (.t 9)
  .skip
  (.exit 0)))
  (.seq (.block 1
  (.seq (.reg [xm 0 12 0, xm 1 13 5, xi 2 14 2 12 13, xL 3 15 2 14, xm 4 16 1,
    ⟨5, some 17, none, .call (.alone false true) 83 [.t 15, .t 16]⟩,
    ⟨6, some 18, none, .nt (.t 17)⟩] [0, 1, 5, 18])
  (.cond (.t 18)
  (.seq (.reg [⟨0, some 4, none, .mv (.c (.bool false))⟩] [4])
  .ret)
  .skip)))
  (.reg [xm 0 10 5,
    ⟨1, some 11, none, .bin .add (.t 10) (.c (.int .i64 1))⟩, xm 2 5 11] [0, 1, 5])))
def l_84_0 : AC := b_84_0
theorem u_84_0 {A : Nat → Option AFn} {mt : Nat → Nat → Option Nat} {fr : Fr} {G : AG} {S : List KF} : evS A mt l_84_0 fr G S = evS A mt b_84_0 fr G S := rfl
/-- spec.l11Vals -/
def c_84 : AFn := ⟨2, 19, [], [.t 4],
  (.seq (.reg [⟨0, some 4, none, .mv (.c (.bool false))⟩] [0, 1])
  (.seq (.seq (.reg [⟨0, some 5, none, .mv (.c (.int .i64 0))⟩] [0, 1, 5])
  (.block 0
  (.loop l_84_0)))
  (.seq (.reg [⟨0, some 4, none, .mv (.c (.bool true))⟩] [4])
  .ret)))⟩
/-- (impl.Mach).placeOf -/
def c_85 : AFn := ⟨2, 52, [2, 4, 6, 7], [.c 4 (some 2), .t 5],
  (.seq (.reg [⟨0, some 2, none, .boxP (.t 0)⟩,
    ⟨1, some 4, none, .allocP [.int .i64 0, .int .i64 0]⟩,
    ⟨2, some 5, none, .mv (.c (.bool false))⟩] [1, 2, 4])
  (.seq (.seq (.reg [xm 0 8 1, xf 1 9 4 2, xl 2 10 9,
    ⟨3, some 11, none, .len (.t 10)⟩,
    ⟨4, some 12, none, .bin .sub (.t 11) (.c (.int .i64 1))⟩,
    ⟨5, some 13, none, .call (.alone false true) 66 [.t 8, .c (.int .i64 0), .t 12]⟩,
    ⟨6, some 14, none, .nt (.t 13)⟩] [1, 2, 4, 14])
  (.cond (.t 14)
  (.seq (.reg [⟨0, some 15, none, .build [.int .i64 0, .int .i64 0] []⟩,
    ⟨1, none, none, .store 2 (.t 4) (.t 15)⟩,
    ⟨2, some 5, none, .mv (.c (.bool false))⟩] [4, 5])
  .ret)
  .skip))
  (.seq (.reg [xf 0 16 4 2, xl 1 17 16, xm 2 18 1, xi 3 19 8 17 18, xL 4 20 8 19,
    ⟨5, some 6, none, .allocP [.int .i64 0, .int .i64 0, .int .i64 0, .int .i64 0, .nils, .nils, .int .i64 0, .bool false]⟩,
    ⟨6, none, none, .store 8 (.t 6) (.t 20)⟩] [1, 2, 4, 6])
  (.seq (.seq (.reg [xf 0 21 0 6, xl 1 22 21,
    ⟨2, some 23, none, .bin .lss (.t 22) (.c (.int .i64 0))⟩] [1, 2, 4, 6, 23])
  (.cond (.t 23)
  (.seq (.reg [xm 0 24 1,
    ⟨1, some 25, none, .build [.int .i64 0, .int .i64 0] [(0, 1, .c (.int .i64 (-1))), (1, 1, .t 24)]⟩,
    ⟨2, none, none, .store 2 (.t 4) (.t 25)⟩,
    ⟨3, some 5, none, .mv (.c (.bool true))⟩] [4, 5])
  .ret)
  .skip))
  (.seq (.reg [xf 0 26 0 6, xl 1 27 26, xf 2 28 1 6, xl 3 29 28,
    ⟨4, some 30, none, .build [.int .i64 0, .int .i64 0] [(0, 1, .t 27), (1, 1, .t 29)]⟩,
    ⟨5, some 7, none, .allocP [.int .i64 0, .int .i64 0]⟩,
    ⟨6, none, none, .store 2 (.t 7) (.t 30)⟩] [2, 4, 6, 7])
  (.seq (.reg [xL 0 31 2 7, xf 1 32 0 6, xl 2 33 32, xf 3 34 1 2, xl 4 35 34,
    ⟨5, some 36, none, .len (.t 35)⟩,
    ⟨6, some 37, none, .bin .lss (.t 33) (.t 36)⟩, xm 7 38 37,
    ⟨8, some 39, some (38, true), .fld 1 (.t 6)⟩,
    ⟨9, some 40, some (38, true), .load none (.t 39)⟩,
    ⟨10, some 41, some (38, true), .fld 1 (.t 2)⟩,
    ⟨11, some 42, some (38, true), .load none (.t 41)⟩,
    ⟨12, some 43, some (38, true), .fld 0 (.t 6)⟩,
    ⟨13, some 44, some (38, true), .load none (.t 43)⟩,
    ⟨14, some 45, some (38, true), .idx 2 (.t 42) (.t 44)⟩,
    ⟨15, some 46, some (38, true), .fld 1 (.t 45)⟩,
    ⟨16, some 47, some (38, true), .load none (.t 46)⟩,
    ⟨17, some 48, some (38, true), .len (.t 47)⟩,
    ⟨18, some 49, some (38, true), .bin .sub (.t 48) (.c (.int .i64 1))⟩,
    ⟨19, some 50, some (38, true), .call (.alone false true) 66 [.t 40, .c (.int .i64 0), .t 49]⟩,
    ⟨0, none, none, .again 31 (.load (some 2) (.t 7))⟩,
    ⟨20, some 51, none, .pick (.t 38) (.t 50) (.c (.bool false))⟩,
    ⟨21, none, none, .store 2 (.t 4) (.t 31)⟩, xm 22 5 51] [4, 5])
  .ret))))))⟩
/-- slices.ContainsFunc[[]impl.Method,impl.Method] -/
def c_88 : AFn := ⟨2, 9, [], [.t 4],
  (.seq (.reg [⟨0, some 4, none, .mv (.c (.bool false))⟩] [0, 1])
  (.seq (.reg [xm 0 5 0, xm 1 6 1,
    ⟨2, some 7, none, .call (.alone false true) 108 [.t 5, .t 6]⟩,
    ⟨3, some 8, none, .bin .geq (.t 7) (.c (.int .i64 0))⟩, xm 4 4 8] [4])
  .ret))⟩
/-- impl.ProgOk$1 -/
def c_89 : AFn := ⟨2, 26, [], [.t 3],
  (.seq (.reg [⟨0, some 2, none, .boxH (.t 0)⟩,
    ⟨1, some 3, none, .mv (.c (.bool false))⟩] [1, 2])
  (.seq (.seq (.reg [xf 0 4 0 2, xl 1 5 4,
    ⟨2, some 6, none, .call (.alone false true) 66 [.t 5, .c (.int .i64 0), .c (.int .i64 2)]⟩,
    ⟨3, some 7, none, .nt (.t 6)⟩, xm 4 8 7,
    ⟨5, some 9, some (8, false), .fld 1 (.t 2)⟩,
    ⟨6, some 10, some (8, false), .load none (.t 9)⟩,
    ⟨7, some 11, some (8, false), .fld 0 (.t 2)⟩,
    ⟨8, some 12, some (8, false), .load none (.t 11)⟩,
    ⟨9, some 13, some (8, false), .call (.alone false true) 66 [.t 10, .t 12, .c (.int .i64 4)]⟩,
    ⟨10, some 14, some (8, false), .nt (.t 13)⟩,
    ⟨11, some 15, none, .pick (.t 8) (.c (.bool true)) (.t 14)⟩, xm 12 16 15,
    ⟨13, some 17, some (16, false), .fld 2 (.t 2)⟩,
    ⟨14, some 18, some (16, false), .load none (.t 17)⟩,
    ⟨15, some 19, some (16, false), .len (.t 18)⟩,
    ⟨16, some 20, some (16, false), .bin .gtr (.t 19) (.c (.int .i64 14))⟩,
    ⟨17, some 21, none, .pick (.t 16) (.c (.bool true)) (.t 20)⟩] [1, 2, 21])
  (.cond (.t 21)
  (.seq (.reg [⟨0, some 3, none, .mv (.c (.bool true))⟩] [3])
  .ret)
  .skip))
  (.seq (.reg [xf 0 22 2 2, xl 1 23 22,
    ⟨2, some 24, none, .mkf 91 [.t 1, .t 2]⟩,
    ⟨3, some 25, none, .call (.alone true true) 90 [.t 23, .t 24]⟩, xm 4 3 25] [3])
  .ret)))⟩
/-- slices.ContainsFunc[[]impl.Op,impl.Op] -/
def c_90 : AFn := ⟨2, 9, [], [.t 4],
  (.seq (.reg [⟨0, some 4, none, .mv (.c (.bool false))⟩] [0, 1])
  (.seq (.reg [xm 0 5 0, xm 1 6 1,
    ⟨2, some 7, none, .call (.alone false true) 109 [.t 5, .t 6]⟩,
    ⟨3, some 8, none, .bin .geq (.t 7) (.c (.int .i64 0))⟩, xm 4 4 8] [4])
  .ret))⟩
/-- impl.ProgOk$1$1 -/
def c_91 : AFn := ⟨3, 10, [3], [.t 4],
  (.seq (.reg [⟨0, some 3, none, .boxP (.t 0)⟩,
    ⟨1, some 4, none, .mv (.c (.bool false))⟩] [1, 2, 3])
  (.seq (.reg [xL 0 5 2 3, xL 1 6 1 1, xL 2 7 3 2,
    ⟨3, some 8, none, .call (.alone false true) 92 [.t 5, .t 6, .t 7]⟩,
    ⟨4, some 9, none, .nt (.t 8)⟩, xm 5 4 9] [4])
  .ret))⟩
/-- (impl.Op).ok -/
def c_92 : AFn := ⟨3, 37, [3, 4, 5, 7], [.t 6],
  (.seq (.reg [⟨0, some 3, none, .boxP (.t 0)⟩,
    ⟨1, some 4, none, .boxP (.t 1)⟩,
    ⟨2, some 5, none, .boxP (.t 2)⟩,
    ⟨3, some 6, none, .mv (.c (.bool false))⟩] [3, 4, 5])
  (.seq (.reg [xf 0 10 0 3, xl 1 11 10,
    ⟨2, some 12, none, .call (.alone false true) 110 [.t 11]⟩, xm 3 9 12,
    ⟨4, some 13, none, .ext (.t 9) 0⟩,
    ⟨5, some 14, none, .ext (.t 9) 1⟩,
    ⟨6, some 7, none, .allocP [.str ⟨#[]⟩, .int .i64 0, .int .i64 0, .nils, .nilf]⟩,
    ⟨7, none, none, .store 5 (.t 7) (.t 13)⟩, xm 8 8 14] [3, 4, 5, 7, 8])
  (.seq (.seq (.reg [xm 0 15 8,
    ⟨1, some 16, none, .nt (.t 15)⟩, xm 2 17 16,
    ⟨3, some 18, some (17, false), .fld 4 (.t 7)⟩,
    ⟨4, some 19, some (17, false), .load none (.t 18)⟩,
    ⟨5, some 20, some (17, false), .eqk .f false (.t 19) (.c (.nilf))⟩,
    ⟨6, some 21, none, .pick (.t 17) (.c (.bool true)) (.t 20)⟩] [3, 4, 5, 7, 8, 21])
  (.cond (.t 21)
  (.seq (.reg [xm 0 22 8, xm 1 23 22,
    ⟨2, some 24, some (23, true), .fld 1 (.t 3)⟩,
    ⟨3, some 25, some (23, true), .load none (.t 24)⟩,
    ⟨4, some 26, some (23, true), .bin .eql (.t 25) (.c (.int .i64 0))⟩,
    ⟨5, some 27, none, .pick (.t 23) (.t 26) (.c (.bool false))⟩, xm 6 6 27] [6])
  .ret)
  .skip))
  (.seq (.reg [xf 0 28 1 3, xl 1 29 28, xf 2 30 4 7, xl 3 31 30, xL 4 32 1 4, xL 5 33 3 5,
    ⟨6, some 34, none, .callv (.alone false true) (.t 31) [.t 32, .t 33]⟩,
    ⟨1, none, none, .again 29 (.load none (.t 28))⟩,
    ⟨7, some 35, none, .bin .sub (.t 34) (.c (.int .i64 1))⟩,
    ⟨8, some 36, none, .call (.alone false true) 66 [.t 29, .c (.int .i64 0), .t 35]⟩, xm 9 6 36] [6])
  .ret))))⟩
/-- impl.told$1 -/
def c_93 : AFn := ⟨2, 10, [2], [.t 3],
  (.seq (.reg [⟨0, some 2, none, .boxP (.t 0)⟩,
    ⟨1, some 3, none, .mv (.c (.bool false))⟩] [1, 2])
  (.seq (.reg [xL 0 4 2 2, xf 1 5 0 1, xl 2 6 5,
    ⟨3, some 7, none, .len (.t 6)⟩,
    ⟨4, some 8, none, .call (.alone false true) 94 [.t 4, .t 7]⟩,
    ⟨5, some 9, none, .nt (.t 8)⟩, xm 6 3 9] [3])
  .ret))⟩
/-- (impl.Val).ok -/
def c_94 : AFn := ⟨2, 24, [2], [.t 4],
  (.seq (.reg [⟨0, some 2, none, .boxP (.t 0)⟩,
    ⟨1, some 4, none, .mv (.c (.bool false))⟩] [1, 2])
  (.seq (.seq (.reg [xf 0 5 0 2, xl 1 6 5] [1, 2, 6])
  (.block 0
  (.seq (.reg [⟨0, some 8, none, .bin .eql (.t 6) (.c (.int .i64 0))⟩, xm 1 7 8] [1, 2, 6, 7])
  (.cond (.t 7)
  (.seq (.reg [xf 0 9 1 2, xl 1 10 9,
    ⟨2, some 11, none, .bin .eql (.t 10) (.c (.int .i64 0))⟩, xm 3 4 11] [4])
  .ret)
  (.seq (.reg [⟨0, some 13, none, .bin .eql (.t 6) (.c (.int .i64 1))⟩, xm 1 12 13] [1, 2, 6, 12])
  (.cond (.t 12)
  (.seq (.reg [xf 0 14 1 2, xl 1 15 14,
    ⟨2, some 16, none, .call (.alone false true) 66 [.t 15, .c (.int .i64 0), .c (.int .i64 999)]⟩, xm 3 4 16] [4])
  .ret)
  (.seq (.reg [⟨0, some 18, none, .bin .eql (.t 6) (.c (.int .i64 2))⟩, xm 1 17 18] [1, 2, 17])
  (.cond (.t 17)
  (.seq (.reg [xf 0 19 1 2, xl 1 20 19, xm 2 21 1,
    ⟨3, some 22, none, .bin .sub (.t 21) (.c (.int .i64 1))⟩,
    ⟨4, some 23, none, .call (.alone false true) 66 [.t 20, .c (.int .i64 0), .t 22]⟩, xm 5 4 23] [4])
  .ret)
  .skip))))))))
  (.seq (.reg [⟨0, some 4, none, .mv (.c (.bool false))⟩] [4])
  .ret)))⟩
/-- slices.ContainsFunc[[]impl.Val,impl.Val] -/
def c_95 : AFn := ⟨2, 9, [], [.t 4],
  (.seq (.reg [⟨0, some 4, none, .mv (.c (.bool false))⟩] [0, 1])
  (.seq (.reg [xm 0 5 0, xm 1 6 1,
    ⟨2, some 7, none, .call (.alone false true) 111 [.t 5, .t 6]⟩,
    ⟨3, some 8, none, .bin .geq (.t 7) (.c (.int .i64 0))⟩, xm 4 4 8] [4])
  .ret))⟩
/-- impl.valsOk -/
def c_96 : AFn := ⟨2, 9, [], [.t 4],
  (.seq (.reg [⟨0, some 3, none, .boxH (.t 1)⟩,
    ⟨1, some 4, none, .mv (.c (.bool false))⟩] [0, 3])
  (.seq (.reg [xm 0 5 0,
    ⟨1, some 6, none, .mkf 112 [.t 3]⟩,
    ⟨2, some 7, none, .call (.alone true true) 95 [.t 5, .t 6]⟩,
    ⟨3, some 8, none, .nt (.t 7)⟩, xm 4 4 8] [4])
  .ret))⟩
def b_98_0 : AC := (.seq (.seq (.reg [xm 0 25 9,
    ⟨1, some 26, none, .bin .lss (.t 25) (.c (.int .i64 4))⟩] [0, 1, 6, 7, 8, 9, 26])
  (.cond (.t 26)
  .skip
  (.exit 0)))
  (.seq (.block 1
  (.seq (.reg [xm 0 29 0, xm 1 30 1, xf 2 31 1 7, xl 3 32 31,
    ⟨4, some 33, none, .call .whole 113 [.t 29, .t 30, .t 32]⟩, xm 5 10 33] [0, 1, 6, 7, 8, 9, 10])
  (.seq (.seq (.reg [xm 0 34 8,
    ⟨1, some 35, none, .bin .lss (.t 34) (.c (.int .i64 0))⟩, xm 2 36 35,
    ⟨3, some 37, some (36, true), .mv (.t 0)⟩,
    ⟨4, some 38, some (36, true), .call .whole 76 [.t 37, .c (.int .i64 6)]⟩,
    ⟨5, some 39, some (36, true), .bin .eql (.t 38) (.c (.int .i64 0))⟩,
    ⟨6, some 40, none, .pick (.t 36) (.t 39) (.c (.bool false))⟩, xm 7 41 40,
    ⟨8, some 42, some (41, true), .fld 2 (.t 7)⟩,
    ⟨9, some 43, some (41, true), .load none (.t 42)⟩,
    ⟨10, some 44, some (41, true), .len (.t 43)⟩,
    ⟨11, some 45, some (41, true), .mv (.t 10)⟩,
    ⟨12, some 46, some (41, true), .len (.t 45)⟩,
    ⟨13, some 47, some (41, true), .bin .add (.t 44) (.t 46)⟩,
    ⟨14, some 48, some (41, true), .bin .leq (.t 47) (.c (.int .i64 10))⟩,
    ⟨15, some 49, none, .pick (.t 41) (.t 48) (.c (.bool false))⟩] [0, 1, 6, 7, 8, 9, 10, 49])
  (.cond (.t 49)
  (.seq (.reg [xf 0 50 2 7, xl 1 51 50,
    ⟨2, some 52, none, .len (.t 51)⟩,
    ⟨3, some 53, none, .bin .add (.t 52) (.c (.int .i64 1))⟩, xm 4 8 53] [0, 1, 6, 7, 8, 9, 10])
  (.reg [xf 0 54 2 7, xl 1 55 54, xm 2 56 0, xf 3 57 1 7, xl 4 58 57,
    ⟨5, some 59, none, .call .whole 76 [.t 56, .t 58]⟩,
    ⟨1, none, none, .again 55 (.load none (.t 54))⟩,
    ⟨6, some 60, none, .build [.int .i64 0, .int .i64 0] [(0, 1, .c (.int .i64 2)), (1, 1, .t 59)]⟩,
    ⟨7, some 61, none, .build [.int .i64 0, .int .i64 0] [(0, 1, .c (.int .i64 8))]⟩,
    ⟨8, some 62, none, .litI 2 [.t 60, .t 61]⟩,
    ⟨9, some 63, none, .app 2 16 (.t 55) (.t 62)⟩, xf 10 64 2 7,
    ⟨11, none, none, .store 1 (.t 64) (.t 63)⟩] [0, 1, 6, 7, 8, 9, 10]))
  .skip))
  (.seq (.reg [xf 0 65 2 7, xl 1 66 65,
    ⟨2, some 67, none, .len (.t 66)⟩, xm 3 68 10,
    ⟨4, some 69, none, .len (.t 68)⟩,
    ⟨5, some 70, none, .bin .add (.t 67) (.t 69)⟩,
    ⟨6, some 71, none, .bin .leq (.t 70) (.c (.int .i64 12))⟩] [0, 1, 6, 7, 8, 9, 10, 71])
  (.cond (.t 71)
  (.reg [xf 0 72 2 7, xl 1 73 72, xm 2 74 10,
    ⟨3, some 75, none, .app 2 16 (.t 73) (.t 74)⟩, xf 4 76 2 7,
    ⟨5, none, none, .store 1 (.t 76) (.t 75)⟩] [0, 1, 6, 7, 8, 9])
  .skip)))))
  (.reg [xm 0 27 9,
    ⟨1, some 28, none, .bin .add (.t 27) (.c (.int .i64 1))⟩, xm 2 9 28] [0, 1, 6, 7, 8, 9])))
def l_98_0 : AC := b_98_0
theorem u_98_0 {A : Nat → Option AFn} {mt : Nat → Nat → Option Nat} {fr : Fr} {G : AG} {S : List KF} : evS A mt l_98_0 fr G S = evS A mt b_98_0 fr G S := rfl
/-- spec.l71Method -/
def c_98 : AFn := ⟨3, 113, [6, 7], [.c 6 (some 3)],
  (.seq (.reg [⟨0, some 6, none, .allocP [.int .i64 0, .int .i64 0, .nils]⟩] [0, 1, 2, 6])
  (.seq (.reg [xm 0 11 1, xm 1 12 2, xi 2 13 1 11 12, xl 3 14 13, xm 4 15 1, xm 5 16 2, xi 6 17 1 15 16, xl 7 18 17, xm 8 19 0,
    ⟨9, some 20, none, .call .whole 76 [.t 19, .c (.int .i64 3)]⟩,
    ⟨2, none, none, .again 13 (.idx 1 (.t 11) (.t 12))⟩,
    ⟨3, none, none, .again 14 (.load none (.t 13))⟩,
    ⟨6, none, none, .again 17 (.idx 1 (.t 15) (.t 16))⟩,
    ⟨7, none, none, .again 18 (.load none (.t 17))⟩,
    ⟨10, some 21, none, .bin .add (.c (.int .i64 1)) (.t 20)⟩,
    ⟨11, some 22, none, .mxn true [.t 18, .t 21]⟩,
    ⟨12, some 23, none, .litO 2 []⟩,
    ⟨13, some 24, none, .build [.int .i64 0, .int .i64 0, .nils] [(0, 1, .t 14), (1, 1, .t 22), (2, 1, .t 23)]⟩,
    ⟨14, some 7, none, .allocP [.int .i64 0, .int .i64 0, .nils]⟩,
    ⟨15, none, none, .store 3 (.t 7) (.t 24)⟩] [0, 1, 6, 7])
  (.seq (.reg [⟨0, some 8, none, .mv (.c (.int .i64 (-1)))⟩] [0, 1, 6, 7, 8])
  (.seq (.seq (.reg [⟨0, some 9, none, .mv (.c (.int .i64 0))⟩] [0, 1, 6, 7, 8, 9])
  (.block 0
  (.loop l_98_0)))
  (.seq (.seq (.reg [xm 0 77 8,
    ⟨1, some 78, none, .bin .geq (.t 77) (.c (.int .i64 0))⟩] [0, 6, 7, 8, 78])
  (.cond (.t 78)
  (.reg [xf 0 79 2 7, xl 1 80 79, xm 2 81 8, xf 3 82 2 7, xl 4 83 82,
    ⟨5, some 84, none, .len (.t 83)⟩, xi 6 85 2 80 81, xf 7 86 1 85,
    ⟨8, none, none, .store 1 (.t 86) (.t 84)⟩] [0, 6, 7])
  .skip))
  (.seq (.seq (.reg [xm 0 87 0,
    ⟨1, some 88, none, .call .whole 76 [.t 87, .c (.int .i64 3)]⟩,
    ⟨2, some 89, none, .bin .eql (.t 88) (.c (.int .i64 0))⟩] [0, 6, 7, 89])
  (.cond (.t 89)
  (.reg [xf 0 90 2 7, xl 1 91 90,
    ⟨2, some 92, none, .build [.int .i64 0, .int .i64 0] [(0, 1, .c (.int .i64 11))]⟩,
    ⟨3, some 93, none, .litI 2 [.t 92]⟩,
    ⟨4, some 94, none, .app 2 16 (.t 91) (.t 93)⟩, xf 5 95 2 7,
    ⟨6, none, none, .store 1 (.t 95) (.t 94)⟩] [6, 7])
  (.reg [xf 0 96 2 7, xl 1 97 96, xm 2 98 0, xf 3 99 1 7, xl 4 100 99,
    ⟨5, some 101, none, .call .whole 76 [.t 98, .t 100]⟩,
    ⟨1, none, none, .again 97 (.load none (.t 96))⟩,
    ⟨6, some 102, none, .build [.int .i64 0, .int .i64 0] [(0, 1, .c (.int .i64 2)), (1, 1, .t 101)]⟩,
    ⟨7, some 103, none, .litI 2 [.t 102]⟩,
    ⟨8, some 104, none, .app 2 16 (.t 97) (.t 103)⟩, xf 9 105 2 7,
    ⟨10, none, none, .store 1 (.t 105) (.t 104)⟩] [6, 7])))
  (.seq (.reg [xf 0 106 2 7, xl 1 107 106,
    ⟨2, some 108, none, .build [.int .i64 0, .int .i64 0] [(0, 1, .c (.int .i64 10))]⟩,
    ⟨3, some 109, none, .litI 2 [.t 108]⟩,
    ⟨4, some 110, none, .app 2 16 (.t 107) (.t 109)⟩, xf 5 111 2 7,
    ⟨6, none, none, .store 1 (.t 111) (.t 110)⟩] [6, 7])
  (.seq (.reg [xL 0 112 3 7,
    ⟨1, none, none, .store 3 (.t 6) (.t 112)⟩,
    ⟨0, none, none, .fzb 6 2⟩] [6])
  .ret))))))))⟩
/-- spec.l11Call -/
def c_99 : AFn := ⟨4, 29, [4, 8], [.c 8 (some 6)],
  (.seq (.reg [⟨0, some 4, none, .boxP (.t 0)⟩,
    ⟨1, some 8, none, .allocP [.int .i64 0, .int .i64 0, .nils, .nils, .int .i64 0, .bool false]⟩] [1, 2, 3, 4, 8])
  (.seq (.reg [⟨0, some 10, none, .litO 2 []⟩, xm 1 11 2,
    ⟨2, some 12, none, .app 2 16 (.t 10) (.t 11)⟩, xm 3 9 12] [1, 2, 3, 4, 8, 9])
  (.seq (.reg [xm 0 13 1, xm 1 14 9, xf 2 15 0 4, xl 3 16 15, xm 4 17 1, xi 5 18 3 16 17, xf 6 19 1 18, xl 7 20 19, xm 8 21 2,
    ⟨9, some 22, none, .len (.t 21)⟩,
    ⟨10, some 23, none, .bin .sub (.t 20) (.t 22)⟩,
    ⟨11, some 24, none, .call (.alone false false) 114 [.t 23]⟩,
    ⟨12, some 25, none, .app 2 16 (.t 14) (.t 24)⟩,
    ⟨13, some 26, none, .litO 2 []⟩, xm 14 27 3,
    ⟨15, some 28, none, .build [.int .i64 0, .int .i64 0, .nils, .nils, .int .i64 0, .bool false] [(0, 1, .t 13), (2, 1, .t 25), (3, 1, .t 26), (4, 1, .t 27)]⟩,
    ⟨16, none, none, .store 6 (.t 8) (.t 28)⟩] [8])
  .ret)))⟩
def b_100_0 : AC := (.seq (.seq (.reg [xm 0 8 4, xf 1 9 0 1, xl 2 10 9,
    ⟨3, some 11, none, .len (.t 10)⟩,
    ⟨4, some 12, none, .bin .lss (.t 8) (.t 11)⟩] [1, 2, 3, 4, 12])
  (.cond (.t 12)
  .skip
  (.exit 0)))
  (.seq (.block 1
  (.reg [xf 0 15 0 3, xl 1 16 15, xf 2 17 0 1, xl 3 18 17, xm 4 19 4, xi 5 20 6 18 19, xL 6 21 6 20,
    ⟨7, some 22, none, .call (.alone false false) 115 [.t 21]⟩,
    ⟨1, none, none, .again 16 (.load none (.t 15))⟩,
    ⟨8, some 23, none, .litI 6 [.t 22]⟩,
    ⟨9, some 24, none, .app 6 80 (.t 16) (.t 23)⟩, xf 10 25 0 3,
    ⟨11, none, none, .store 1 (.t 25) (.t 24)⟩] [1, 2, 3, 4]))
  (.reg [xm 0 13 4,
    ⟨1, some 14, none, .bin .add (.t 13) (.c (.int .i64 1))⟩, xm 2 4 14] [1, 2, 3, 4])))
def l_100_0 : AC := b_100_0
theorem u_100_0 {A : Nat → Option AFn} {mt : Nat → Nat → Option Nat} {fr : Fr} {G : AG} {S : List KF} : evS A mt l_100_0 fr G S = evS A mt b_100_0 fr G S := rfl
/-- spec.l11Anew -/
def c_100 : AFn := ⟨1, 32, [1, 2, 3], [.c 2 (some 5)],
  (.seq (.reg [⟨0, some 1, none, .boxP (.t 0)⟩,
    ⟨1, some 2, none, .allocP [.nils, .int .i64 0, .int .i64 0, .nils, .int .i64 0]⟩] [1, 2])
  (.seq (.reg [xL 0 5 5 1,
    ⟨1, some 3, none, .allocP [.nils, .int .i64 0, .int .i64 0, .nils, .int .i64 0]⟩,
    ⟨2, none, none, .store 5 (.t 3) (.t 5)⟩] [1, 2, 3])
  (.seq (.reg [⟨0, some 6, none, .litO 6 []⟩, xf 1 7 0 3,
    ⟨2, none, none, .store 1 (.t 7) (.t 6)⟩] [1, 2, 3])
  (.seq (.seq (.reg [⟨0, some 4, none, .mv (.c (.int .i64 0))⟩] [1, 2, 3, 4])
  (.block 0
  (.loop l_100_0)))
  (.seq (.reg [⟨0, some 26, none, .litO 2 []⟩, xf 1 27 3 1, xl 2 28 27,
    ⟨3, some 29, none, .app 2 16 (.t 26) (.t 28)⟩, xf 4 30 3 3,
    ⟨5, none, none, .store 1 (.t 30) (.t 29)⟩] [2, 3])
  (.seq (.reg [xL 0 31 5 3,
    ⟨1, none, none, .store 5 (.t 2) (.t 31)⟩] [2])
  .ret))))))⟩
/-- (*spec.l11Heap).step -/
def c_101 : AFn := ⟨1, 108, [4], [],
  (.seq (.reg [xm 0 9 0,
    ⟨1, some 10, none, .call .whole 116 [.t 9]⟩, xm 2 2 10] [0, 2])
  (.seq (.reg [xm 0 11 0, xn 1 12 11, xf 2 13 0 12, xf 3 14 0 13, xl 4 15 14, xm 5 16 2, xn 6 17 16, xf 7 18 0 17, xl 8 19 18, xi 9 20 3 15 19, xf 10 21 2 20, xl 11 22 21, xm 12 3 22] [0, 2, 3])
  (.seq (.seq (.reg [xm 0 23 2, xn 1 24 23, xf 2 25 1 24, xl 3 26 25, xm 4 27 3,
    ⟨5, some 28, none, .len (.t 27)⟩,
    ⟨6, some 29, none, .bin .geq (.t 26) (.t 28)⟩] [0, 2, 3, 29])
  (.cond (.t 29)
  (.seq (.reg [xm 0 30 0, xn 1 31 30, xf 2 32 1 31, xf 3 33 4 32,
    ⟨4, none, none, .store 1 (.t 33) (.c (.int .i64 2))⟩] [])
  .ret)
  .skip))
  (.seq (.reg [xm 0 34 3, xm 1 35 2, xn 2 36 35, xf 3 37 1 36, xl 4 38 37, xi 5 39 2 34 38, xL 6 40 2 39,
    ⟨7, some 4, none, .allocP [.int .i64 0, .int .i64 0]⟩,
    ⟨8, none, none, .store 2 (.t 4) (.t 40)⟩] [0, 2, 4])
  (.seq (.reg [xm 0 42 0, xn 1 43 42, xf 2 44 0 43, xL 3 45 1 44, xL 4 46 2 4,
    ⟨5, some 47, none, .call (.alone false true) 117 [.t 45, .t 46]⟩, xm 6 41 47,
    ⟨7, some 48, none, .ext (.t 41) 0⟩,
    ⟨8, some 49, none, .ext (.t 41) 1⟩, xm 9 5 48, xm 10 6 49] [0, 2, 4, 5, 6])
  (.seq (.reg [xm 0 50 2, xn 1 51 50, xf 2 52 3 51, xl 3 53 52,
    ⟨4, some 54, none, .len (.t 53)⟩, xm 5 55 5,
    ⟨6, some 56, none, .bin .sub (.t 54) (.t 55)⟩, xm 7 7 56] [0, 2, 4, 6, 7])
  (.seq (.seq (.reg [xm 0 57 7,
    ⟨1, some 58, none, .bin .lss (.t 57) (.c (.int .i64 0))⟩, xm 2 59 58,
    ⟨3, some 60, some (59, false), .mv (.t 7)⟩,
    ⟨4, some 61, some (59, false), .mv (.t 6)⟩,
    ⟨5, some 62, some (59, false), .bin .add (.t 60) (.t 61)⟩,
    ⟨6, some 63, some (59, false), .bin .gtr (.t 62) (.c (.int .i64 6))⟩,
    ⟨7, some 64, none, .pick (.t 59) (.c (.bool true)) (.t 63)⟩] [0, 2, 4, 7, 64])
  (.cond (.t 64)
  (.seq (.reg [xm 0 65 0, xn 1 66 65, xf 2 67 1 66, xf 3 68 4 67,
    ⟨4, none, none, .store 1 (.t 68) (.c (.int .i64 2))⟩] [])
  .ret)
  .skip))
  (.seq (.reg [⟨0, some 69, none, .litO 2 []⟩, xm 1 70 2, xn 2 71 70, xf 3 72 3 71, xl 4 73 72, xm 5 74 7,
    ⟨6, some 75, none, .sl 2 (.t 73) (some (.t 74)) none⟩,
    ⟨7, some 76, none, .app 2 16 (.t 69) (.t 75)⟩, xm 8 8 76,
    ⟨0, some 8, none, .fz 8⟩] [0, 2, 4, 7, 8])
  (.seq (.seq (.reg [xL 0 77 2 4, xm 1 78 8,
    ⟨2, some 79, none, .call (.alone false true) 118 [.t 77, .t 78]⟩,
    ⟨3, some 80, none, .nt (.t 79)⟩] [0, 2, 4, 7, 8, 80])
  (.cond (.t 80)
  (.seq (.reg [xm 0 81 0, xn 1 82 81, xf 2 83 1 82, xf 3 84 4 83,
    ⟨4, none, none, .store 1 (.t 84) (.c (.int .i64 2))⟩] [])
  .ret)
  .skip))
  (.seq (.reg [xm 0 85 2,
    ⟨1, some 86, none, .litO 2 []⟩, xm 2 87 2, xn 3 88 87, xf 4 89 3 88, xl 5 90 89, xm 6 91 7,
    ⟨7, some 92, none, .sl 2 (.t 90) none (some (.t 91))⟩,
    ⟨8, some 93, none, .app 2 16 (.t 86) (.t 92)⟩, xn 9 94 85, xf 10 95 3 94,
    ⟨11, none, none, .store 1 (.t 95) (.t 93)⟩] [0, 2, 4, 8])
  (.seq (.reg [xm 0 96 2, xm 1 97 2, xn 2 98 97, xf 3 99 1 98, xl 4 100 99,
    ⟨5, some 101, none, .bin .add (.t 100) (.c (.int .i64 1))⟩, xn 6 102 96, xf 7 103 1 102,
    ⟨8, none, none, .store 1 (.t 103) (.t 101)⟩] [0, 4, 8])
  (.reg [xm 0 104 0, xL 1 105 2 4, xm 2 106 8,
    ⟨3, some 107, none, .call .whole 119 [.t 104, .t 105, .t 106]⟩] []))))))))))))⟩
/-- slices.Contains[[]int,int] -/
def c_102 : AFn := ⟨2, 9, [], [.t 4],
  (.seq (.reg [⟨0, some 4, none, .mv (.c (.bool false))⟩] [0, 1])
  (.seq (.reg [xm 0 5 0, xm 1 6 1,
    ⟨2, some 7, none, .call (.alone false true) 120 [.t 5, .t 6]⟩,
    ⟨3, some 8, none, .bin .geq (.t 7) (.c (.int .i64 0))⟩, xm 4 4 8] [4])
  .ret))⟩
def b_103_0 : AC := (.seq (.reg [⟨0, some 10, none, .bin .lss (.t 9) (.t 8)⟩] [3, 7, 8, 9, 10])
  (.seq (.cond (.t 10)
  .skip
  (.exit 0))
  (.seq (.block 1
  (.seq (.reg [xi 0 11 5 7 9, xL 1 12 5 11,
    ⟨2, some 5, none, .allocP [.int .i64 0, .int .i64 0, .int .i64 0, .nils, .nils]⟩,
    ⟨3, none, none, .store 5 (.t 5) (.t 12)⟩] [3, 5, 7, 8, 9])
  (.reg [xm 0 13 3, xL 1 14 5 5,
    ⟨2, some 15, none, .call (.alone false true) 121 [.t 14]⟩,
    ⟨3, some 16, none, .bin .add (.t 13) (.t 15)⟩, xm 4 3 16] [3, 7, 8, 9])))
  (.reg [⟨0, some 17, none, .bin .add (.t 9) (.c (.int .i64 1))⟩, xm 1 9 17] [3, 7, 8, 9]))))
def l_103_0 : AC := b_103_0
theorem u_103_0 {A : Nat → Option AFn} {mt : Nat → Nat → Option Nat} {fr : Fr} {G : AG} {S : List KF} : evS A mt l_103_0 fr G S = evS A mt b_103_0 fr G S := rfl
/-- (impl.Page).used -/
def c_103 : AFn := ⟨1, 19, [1, 5], [.t 2],
  (.seq (.reg [⟨0, some 1, none, .boxP (.t 0)⟩,
    ⟨1, some 2, none, .mv (.c (.int .i64 0))⟩] [1])
  (.seq (.reg [⟨0, some 3, none, .mv (.c (.int .i64 0))⟩] [1, 3])
  (.seq (.seq (.reg [xf 0 6 1 1, xl 1 7 6,
    ⟨2, some 8, none, .len (.t 7)⟩,
    ⟨3, some 9, none, .mv (.c (.int .i64 0))⟩] [3, 7, 8, 9])
  (.block 0
  (.loop l_103_0)))
  (.seq (.reg [xm 0 18 3, xm 1 2 18] [2])
  .ret))))⟩
/-- (impl.Call).empty -/
def c_104 : AFn := ⟨1, 33, [1], [.t 2],
  (.seq (.reg [⟨0, some 1, none, .boxP (.t 0)⟩,
    ⟨1, some 2, none, .mv (.c (.bool false))⟩] [1])
  (.seq (.reg [xf 0 3 0 1, xl 1 4 3,
    ⟨2, some 5, none, .bin .eql (.t 4) (.c (.int .i64 0))⟩, xm 3 6 5,
    ⟨4, some 7, some (6, true), .fld 1 (.t 1)⟩,
    ⟨5, some 8, some (6, true), .load none (.t 7)⟩,
    ⟨6, some 9, some (6, true), .bin .eql (.t 8) (.c (.int .i64 0))⟩,
    ⟨7, some 10, none, .pick (.t 6) (.t 9) (.c (.bool false))⟩, xm 8 11 10,
    ⟨9, some 12, some (11, true), .fld 2 (.t 1)⟩,
    ⟨10, some 13, some (11, true), .load none (.t 12)⟩,
    ⟨11, some 14, some (11, true), .len (.t 13)⟩,
    ⟨12, some 15, some (11, true), .bin .eql (.t 14) (.c (.int .i64 0))⟩,
    ⟨13, some 16, none, .pick (.t 11) (.t 15) (.c (.bool false))⟩, xm 14 17 16,
    ⟨15, some 18, some (17, true), .fld 3 (.t 1)⟩,
    ⟨16, some 19, some (17, true), .load none (.t 18)⟩,
    ⟨17, some 20, some (17, true), .len (.t 19)⟩,
    ⟨18, some 21, some (17, true), .bin .eql (.t 20) (.c (.int .i64 0))⟩,
    ⟨19, some 22, none, .pick (.t 17) (.t 21) (.c (.bool false))⟩, xm 20 23 22,
    ⟨21, some 24, some (23, true), .fld 4 (.t 1)⟩,
    ⟨22, some 25, some (23, true), .load none (.t 24)⟩,
    ⟨23, some 26, some (23, true), .bin .eql (.t 25) (.c (.int .i64 0))⟩,
    ⟨24, some 27, none, .pick (.t 23) (.t 26) (.c (.bool false))⟩, xm 25 28 27,
    ⟨26, some 29, some (28, true), .fld 5 (.t 1)⟩,
    ⟨27, some 30, some (28, true), .load none (.t 29)⟩,
    ⟨28, some 31, some (28, true), .nt (.t 30)⟩,
    ⟨29, some 32, none, .pick (.t 28) (.t 31) (.c (.bool false))⟩, xm 30 2 32] [2])
  .ret))⟩
def b_105_0 : AC := (.seq (.reg [⟨0, some 10, none, .bin .lss (.t 9) (.t 8)⟩] [3, 7, 8, 9, 10])
  (.seq (.cond (.t 10)
  .skip
  (.exit 0))
  (.seq (.block 1
  (.seq (.reg [xi 0 11 2 7 9, xL 1 12 2 11,
    ⟨2, some 5, none, .allocP [.int .i64 0, .nils]⟩,
    ⟨3, none, none, .store 2 (.t 5) (.t 12)⟩] [3, 5, 7, 8, 9])
  (.reg [xm 0 13 3, xf 1 14 1 5, xl 2 15 14,
    ⟨3, some 16, none, .len (.t 15)⟩,
    ⟨4, some 17, none, .bin .add (.t 13) (.t 16)⟩, xm 5 3 17] [3, 7, 8, 9])))
  (.reg [⟨0, some 18, none, .bin .add (.t 9) (.c (.int .i64 1))⟩, xm 1 9 18] [3, 7, 8, 9]))))
def l_105_0 : AC := b_105_0
theorem u_105_0 {A : Nat → Option AFn} {mt : Nat → Nat → Option Nat} {fr : Fr} {G : AG} {S : List KF} : evS A mt l_105_0 fr G S = evS A mt b_105_0 fr G S := rfl
/-- impl.MachFrames -/
def c_105 : AFn := ⟨1, 20, [1, 5], [.t 2],
  (.seq (.reg [⟨0, some 1, none, .boxP (.t 0)⟩,
    ⟨1, some 2, none, .mv (.c (.int .i64 0))⟩] [1])
  (.seq (.reg [⟨0, some 3, none, .mv (.c (.int .i64 0))⟩] [1, 3])
  (.seq (.seq (.reg [xf 0 6 1 1, xl 1 7 6,
    ⟨2, some 8, none, .len (.t 7)⟩,
    ⟨3, some 9, none, .mv (.c (.int .i64 0))⟩] [3, 7, 8, 9])
  (.block 0
  (.loop l_105_0)))
  (.seq (.reg [xm 0 19 3, xm 1 2 19] [2])
  .ret))))⟩
/-- spec.l1Op -/
def c_106 : AFn := ⟨3, 56, [3, 4, 5], [.t 6],
  (.seq (.reg [⟨0, some 3, none, .boxP (.t 0)⟩,
    ⟨1, some 4, none, .boxP (.t 1)⟩,
    ⟨2, some 5, none, .boxP (.t 2)⟩,
    ⟨3, some 6, none, .mv (.c (.bool false))⟩] [3, 4, 5])
  (.seq (.seq (.reg [xf 0 7 0 5, xl 1 8 7] [3, 4, 5, 8])
  (.block 0
  (.seq (.reg [⟨0, some 10, none, .bin .eql (.t 8) (.c (.int .i64 1))⟩, xm 1 9 10] [3, 4, 5, 8, 9])
  (.cond (.t 9)
  (.seq (.reg [xf 0 11 1 5, xl 1 12 11,
    ⟨2, some 13, none, .call (.alone false true) 55 [.t 12, .c (.int .i64 0), .c (.int .i64 99)]⟩, xm 3 6 13] [6])
  .ret)
  (.seq (.seq (.reg [⟨0, some 15, none, .bin .eql (.t 8) (.c (.int .i64 2))⟩, xm 1 14 15] [3, 4, 5, 8, 14])
  (.cond (.t 14)
  .skip
  (.reg [⟨0, some 16, none, .bin .eql (.t 8) (.c (.int .i64 3))⟩, xm 1 14 16] [3, 4, 5, 8, 14])))
  (.cond (.t 14)
  (.seq (.reg [xf 0 17 1 5, xl 1 18 17, xf 2 19 1 4, xl 3 20 19,
    ⟨4, some 21, none, .bin .sub (.t 20) (.c (.int .i64 1))⟩,
    ⟨5, some 22, none, .call (.alone false true) 55 [.t 18, .c (.int .i64 0), .t 21]⟩, xm 6 6 22] [6])
  .ret)
  (.seq (.seq (.reg [⟨0, some 24, none, .bin .eql (.t 8) (.c (.int .i64 7))⟩, xm 1 23 24] [3, 4, 5, 8, 23])
  (.cond (.t 23)
  .skip
  (.reg [⟨0, some 25, none, .bin .eql (.t 8) (.c (.int .i64 8))⟩, xm 1 23 25] [3, 4, 5, 8, 23])))
  (.cond (.t 23)
  (.seq (.reg [xf 0 26 1 5, xl 1 27 26, xf 2 28 2 4, xl 3 29 28,
    ⟨4, some 30, none, .len (.t 29)⟩,
    ⟨5, some 31, none, .bin .sub (.t 30) (.c (.int .i64 1))⟩,
    ⟨6, some 32, none, .call (.alone false true) 55 [.t 27, .c (.int .i64 0), .t 31]⟩, xm 7 6 32] [6])
  .ret)
  (.seq (.reg [⟨0, some 34, none, .bin .eql (.t 8) (.c (.int .i64 9))⟩, xm 1 33 34] [3, 5, 8, 33])
  (.cond (.t 33)
  (.seq (.reg [xf 0 35 1 5, xl 1 36 35, xf 2 37 0 3, xl 3 38 37,
    ⟨4, some 39, none, .len (.t 38)⟩,
    ⟨5, some 40, none, .bin .sub (.t 39) (.c (.int .i64 1))⟩,
    ⟨6, some 41, none, .call (.alone false true) 55 [.t 36, .c (.int .i64 0), .t 40]⟩, xm 7 6 41] [6])
  .ret)
  (.seq (.seq (.reg [⟨0, some 43, none, .bin .eql (.t 8) (.c (.int .i64 13))⟩, xm 1 42 43] [5, 8, 42])
  (.cond (.t 42)
  .skip
  (.reg [⟨0, some 44, none, .bin .eql (.t 8) (.c (.int .i64 14))⟩, xm 1 42 44] [5, 42])))
  (.cond (.t 42)
  (.seq (.reg [xf 0 45 1 5, xl 1 46 45,
    ⟨2, some 47, none, .call (.alone false true) 55 [.t 46, .c (.int .i64 0), .c (.int .i64 3)]⟩, xm 3 6 47] [6])
  .ret)
  .skip))))))))))))
  (.seq (.reg [xf 0 48 0 5, xl 1 49 48,
    ⟨2, some 50, none, .call (.alone false true) 55 [.t 49, .c (.int .i64 1), .c (.int .i64 18)]⟩, xm 3 51 50,
    ⟨4, some 52, some (51, true), .fld 1 (.t 5)⟩,
    ⟨5, some 53, some (51, true), .load none (.t 52)⟩,
    ⟨6, some 54, some (51, true), .bin .eql (.t 53) (.c (.int .i64 0))⟩,
    ⟨7, some 55, none, .pick (.t 51) (.t 54) (.c (.bool false))⟩, xm 8 6 55] [6])
  .ret)))⟩
def b_108_0 : AC := (.seq (.reg [⟨0, some 9, none, .bin .lss (.t 8) (.t 7)⟩] [0, 1, 7, 8, 9])
  (.seq (.cond (.t 9)
  .skip
  (.exit 0))
  (.seq (.block 1
  (.seq (.reg [xm 0 10 8, xm 1 5 10] [0, 1, 5, 7, 8])
  (.seq (.reg [xm 0 11 1, xm 1 12 0, xm 2 13 5, xi 3 14 3 12 13, xL 4 15 3 14,
    ⟨5, some 16, none, .callv (.alone false true) (.t 11) [.t 15]⟩] [0, 1, 5, 7, 8, 16])
  (.cond (.t 16)
  (.seq (.reg [xm 0 17 5, xm 1 4 17] [4])
  .ret)
  .skip))))
  (.reg [⟨0, some 18, none, .bin .add (.t 8) (.c (.int .i64 1))⟩, xm 1 8 18] [0, 1, 7, 8]))))
def l_108_0 : AC := b_108_0
theorem u_108_0 {A : Nat → Option AFn} {mt : Nat → Nat → Option Nat} {fr : Fr} {G : AG} {S : List KF} : evS A mt l_108_0 fr G S = evS A mt b_108_0 fr G S := rfl
/-- slices.IndexFunc[[]impl.Method,impl.Method] -/
def c_108 : AFn := ⟨2, 19, [], [.t 4],
  (.seq (.reg [⟨0, some 4, none, .mv (.c (.int .i64 0))⟩] [0, 1])
  (.seq (.seq (.reg [xm 0 6 0,
    ⟨1, some 7, none, .len (.t 6)⟩,
    ⟨2, some 8, none, .mv (.c (.int .i64 0))⟩] [0, 1, 7, 8])
  (.block 0
  (.loop l_108_0)))
  (.seq (.reg [⟨0, some 4, none, .mv (.c (.int .i64 (-1)))⟩] [4])
  .ret)))⟩
def b_109_0 : AC := (.seq (.reg [⟨0, some 9, none, .bin .lss (.t 8) (.t 7)⟩] [0, 1, 7, 8, 9])
  (.seq (.cond (.t 9)
  .skip
  (.exit 0))
  (.seq (.block 1
  (.seq (.reg [xm 0 10 8, xm 1 5 10] [0, 1, 5, 7, 8])
  (.seq (.reg [xm 0 11 1, xm 1 12 0, xm 2 13 5, xi 3 14 2 12 13, xL 4 15 2 14,
    ⟨5, some 16, none, .callv (.alone false true) (.t 11) [.t 15]⟩] [0, 1, 5, 7, 8, 16])
  (.cond (.t 16)
  (.seq (.reg [xm 0 17 5, xm 1 4 17] [4])
  .ret)
  .skip))))
  (.reg [⟨0, some 18, none, .bin .add (.t 8) (.c (.int .i64 1))⟩, xm 1 8 18] [0, 1, 7, 8]))))
def l_109_0 : AC := b_109_0
theorem u_109_0 {A : Nat → Option AFn} {mt : Nat → Nat → Option Nat} {fr : Fr} {G : AG} {S : List KF} : evS A mt l_109_0 fr G S = evS A mt b_109_0 fr G S := rfl
/-- slices.IndexFunc[[]impl.Op,impl.Op] -/
def c_109 : AFn := ⟨2, 19, [], [.t 4],
  (.seq (.reg [⟨0, some 4, none, .mv (.c (.int .i64 0))⟩] [0, 1])
  (.seq (.seq (.reg [xm 0 6 0,
    ⟨1, some 7, none, .len (.t 6)⟩,
    ⟨2, some 8, none, .mv (.c (.int .i64 0))⟩] [0, 1, 7, 8])
  (.block 0
  (.loop l_109_0)))
  (.seq (.reg [⟨0, some 4, none, .mv (.c (.int .i64 (-1)))⟩] [4])
  .ret)))⟩
/-- impl.mannerOf -/
def c_110 : AFn := ⟨1, 12, [2], [.c 2 (some 5), .t 3],
  (.seq (.reg [⟨0, some 2, none, .allocP [.str ⟨#[]⟩, .int .i64 0, .int .i64 0, .nils, .nilf]⟩,
    ⟨1, some 3, none, .mv (.c (.bool false))⟩] [0, 2])
  (.seq (.seq (.reg [xm 0 4 0,
    ⟨1, some 5, none, .call (.alone false true) 66 [.t 4, .c (.int .i64 1), .c (.int .i64 18)]⟩,
    ⟨2, some 6, none, .nt (.t 5)⟩] [0, 2, 6])
  (.cond (.t 6)
  (.seq (.reg [⟨0, some 7, none, .build [.str ⟨#[]⟩, .int .i64 0, .int .i64 0, .nils, .nilf] []⟩,
    ⟨1, none, none, .store 5 (.t 2) (.t 7)⟩,
    ⟨2, some 3, none, .mv (.c (.bool false))⟩] [2, 3])
  .ret)
  .skip))
  (.seq (.reg [⟨0, some 8, none, .call (.alone false true) 122 []⟩, xm 1 9 0, xi 2 10 5 8 9, xL 3 11 5 10,
    ⟨4, none, none, .store 5 (.t 2) (.t 11)⟩,
    ⟨5, some 3, none, .mv (.c (.bool true))⟩] [2, 3])
  .ret)))⟩
def b_111_0 : AC := (.seq (.reg [⟨0, some 9, none, .bin .lss (.t 8) (.t 7)⟩] [0, 1, 7, 8, 9])
  (.seq (.cond (.t 9)
  .skip
  (.exit 0))
  (.seq (.block 1
  (.seq (.reg [xm 0 10 8, xm 1 5 10] [0, 1, 5, 7, 8])
  (.seq (.reg [xm 0 11 1, xm 1 12 0, xm 2 13 5, xi 3 14 2 12 13, xL 4 15 2 14,
    ⟨5, some 16, none, .callv (.alone false true) (.t 11) [.t 15]⟩] [0, 1, 5, 7, 8, 16])
  (.cond (.t 16)
  (.seq (.reg [xm 0 17 5, xm 1 4 17] [4])
  .ret)
  .skip))))
  (.reg [⟨0, some 18, none, .bin .add (.t 8) (.c (.int .i64 1))⟩, xm 1 8 18] [0, 1, 7, 8]))))
def l_111_0 : AC := b_111_0
theorem u_111_0 {A : Nat → Option AFn} {mt : Nat → Nat → Option Nat} {fr : Fr} {G : AG} {S : List KF} : evS A mt l_111_0 fr G S = evS A mt b_111_0 fr G S := rfl
/-- slices.IndexFunc[[]impl.Val,impl.Val] -/
def c_111 : AFn := ⟨2, 19, [], [.t 4],
  (.seq (.reg [⟨0, some 4, none, .mv (.c (.int .i64 0))⟩] [0, 1])
  (.seq (.seq (.reg [xm 0 6 0,
    ⟨1, some 7, none, .len (.t 6)⟩,
    ⟨2, some 8, none, .mv (.c (.int .i64 0))⟩] [0, 1, 7, 8])
  (.block 0
  (.loop l_111_0)))
  (.seq (.reg [⟨0, some 4, none, .mv (.c (.int .i64 (-1)))⟩] [4])
  .ret)))⟩
/-- impl.valsOk$1 -/
def c_112 : AFn := ⟨2, 8, [2], [.t 3],
  (.seq (.reg [⟨0, some 2, none, .boxP (.t 0)⟩,
    ⟨1, some 3, none, .mv (.c (.bool false))⟩] [1, 2])
  (.seq (.reg [xL 0 4 2 2, xl 1 5 1,
    ⟨2, some 6, none, .call (.alone false true) 94 [.t 4, .t 5]⟩,
    ⟨3, some 7, none, .nt (.t 6)⟩, xm 4 3 7] [3])
  .ret))⟩
/-- spec.l71Part -/
def c_113 : AFn := ⟨3, 102, [], [.t 6],
  (.seq (.reg [⟨0, some 6, none, .mv (.c (.nils))⟩] [0, 1, 2])
  (.seq (.seq (.reg [xm 0 9 0,
    ⟨1, some 10, none, .call .whole 76 [.t 9, .c (.int .i64 10)]⟩] [0, 1, 2, 10])
  (.block 0
  (.seq (.reg [⟨0, some 12, none, .bin .eql (.t 10) (.c (.int .i64 0))⟩, xm 1 11 12] [0, 1, 2, 10, 11])
  (.cond (.t 11)
  (.seq (.reg [xm 0 13 0,
    ⟨1, some 14, none, .call .whole 76 [.t 13, .c (.int .i64 20)]⟩,
    ⟨2, some 15, none, .litI 1 [.c (.int .i64 1), .t 14]⟩,
    ⟨3, some 16, none, .call .whole 123 [.t 15]⟩, xm 4 17 0, xm 5 18 2,
    ⟨6, some 19, none, .call .whole 124 [.t 17, .t 18]⟩,
    ⟨7, some 20, none, .litI 2 [.t 19]⟩,
    ⟨8, some 21, none, .app 2 16 (.t 16) (.t 20)⟩, xm 9 6 21] [6])
  .ret)
  (.seq (.seq (.reg [⟨0, some 23, none, .bin .eql (.t 10) (.c (.int .i64 1))⟩, xm 1 22 23] [0, 1, 2, 10, 22])
  (.cond (.t 22)
  .skip
  (.seq (.reg [⟨0, some 24, none, .bin .eql (.t 10) (.c (.int .i64 2))⟩, xm 1 22 24] [0, 1, 2, 10, 22])
  (.cond (.t 22)
  .skip
  (.reg [⟨0, some 25, none, .bin .eql (.t 10) (.c (.int .i64 3))⟩, xm 1 22 25] [0, 1, 2, 10, 22])))))
  (.cond (.t 22)
  (.seq (.reg [xm 0 26 0, xm 1 27 1,
    ⟨2, some 28, none, .len (.t 27)⟩,
    ⟨3, some 29, none, .call .whole 76 [.t 26, .t 28]⟩, xm 4 7 29] [0, 1, 2, 7])
  (.seq (.reg [xm 0 30 0, xm 1 31 1, xm 2 32 7, xi 3 33 1 31 32, xl 4 34 33, xm 5 35 2,
    ⟨6, some 36, none, .call .whole 125 [.t 30, .t 34, .t 35]⟩, xm 7 37 7,
    ⟨8, some 38, none, .build [.int .i64 0, .int .i64 0] [(0, 1, .c (.int .i64 9)), (1, 1, .t 37)]⟩,
    ⟨9, some 39, none, .litI 2 [.t 38]⟩,
    ⟨10, some 40, none, .app 2 16 (.t 36) (.t 39)⟩, xm 11 8 40] [0, 2, 8])
  (.seq (.reg [xm 0 41 8, xm 1 42 0, xm 2 43 2,
    ⟨3, some 44, none, .call .whole 124 [.t 42, .t 43]⟩,
    ⟨4, some 45, none, .litI 2 [.t 44]⟩,
    ⟨5, some 46, none, .app 2 16 (.t 41) (.t 45)⟩, xm 6 6 46] [6])
  .ret)))
  (.seq (.seq (.reg [⟨0, some 48, none, .bin .eql (.t 10) (.c (.int .i64 4))⟩, xm 1 47 48] [0, 2, 10, 47])
  (.cond (.t 47)
  .skip
  (.reg [⟨0, some 49, none, .bin .eql (.t 10) (.c (.int .i64 5))⟩, xm 1 47 49] [0, 2, 10, 47])))
  (.cond (.t 47)
  (.seq (.reg [xm 0 50 0, xm 1 51 2,
    ⟨2, some 52, none, .call .whole 126 [.t 50, .t 51]⟩, xm 3 53 0, xm 4 54 2,
    ⟨5, some 55, none, .call .whole 124 [.t 53, .t 54]⟩,
    ⟨6, some 56, none, .litI 2 [.t 55]⟩,
    ⟨7, some 57, none, .app 2 16 (.t 52) (.t 56)⟩, xm 8 6 57] [6])
  .ret)
  (.seq (.reg [⟨0, some 59, none, .bin .eql (.t 10) (.c (.int .i64 6))⟩, xm 1 58 59] [0, 2, 10, 58])
  (.cond (.t 58)
  (.seq (.reg [xm 0 60 0, xm 1 61 2,
    ⟨2, some 62, none, .call .whole 76 [.t 60, .t 61]⟩,
    ⟨3, some 63, none, .litI 1 [.c (.int .i64 11), .c (.int .i64 0), .c (.int .i64 3), .t 62]⟩,
    ⟨4, some 64, none, .call .whole 123 [.t 63]⟩, xm 5 6 64] [6])
  .ret)
  (.seq (.reg [⟨0, some 66, none, .bin .eql (.t 10) (.c (.int .i64 7))⟩, xm 1 65 66] [0, 2, 10, 65])
  (.cond (.t 65)
  (.seq (.seq (.reg [xm 0 67 0,
    ⟨1, some 68, none, .call .whole 76 [.t 67, .c (.int .i64 2)]⟩,
    ⟨2, some 69, none, .bin .eql (.t 68) (.c (.int .i64 0))⟩] [0, 2, 69])
  (.cond (.t 69)
  (.seq (.reg [xm 0 70 0,
    ⟨1, some 71, none, .call .whole 76 [.t 70, .c (.int .i64 9)]⟩, xm 2 72 0,
    ⟨3, some 73, none, .call .whole 76 [.t 72, .c (.int .i64 4)]⟩,
    ⟨4, some 74, none, .litI 1 [.c (.int .i64 11), .c (.int .i64 0), .c (.int .i64 12), .c (.int .i64 0), .c (.int .i64 1), .t 71, .c (.int .i64 14), .t 73]⟩,
    ⟨5, some 75, none, .call .whole 123 [.t 74]⟩, xm 6 6 75] [6])
  .ret)
  .skip))
  (.seq (.reg [xm 0 76 0, xm 1 77 2,
    ⟨2, some 78, none, .call .whole 76 [.t 76, .t 77]⟩, xm 3 79 0, xm 4 80 2,
    ⟨5, some 81, none, .call .whole 76 [.t 79, .t 80]⟩,
    ⟨6, some 82, none, .litI 1 [.c (.int .i64 2), .t 78, .c (.int .i64 2), .t 81, .c (.int .i64 6), .c (.int .i64 0), .c (.int .i64 16), .c (.int .i64 0)]⟩,
    ⟨7, some 83, none, .call .whole 123 [.t 82]⟩, xm 8 6 83] [6])
  .ret))
  (.seq (.reg [⟨0, some 85, none, .bin .eql (.t 10) (.c (.int .i64 8))⟩, xm 1 84 85] [0, 2, 84])
  (.cond (.t 84)
  (.seq (.reg [xm 0 86 0, xm 1 87 2,
    ⟨2, some 88, none, .call .whole 76 [.t 86, .t 87]⟩, xm 3 89 0,
    ⟨4, some 90, none, .call .whole 76 [.t 89, .c (.int .i64 9)]⟩,
    ⟨5, some 91, none, .litI 1 [.c (.int .i64 2), .t 88, .c (.int .i64 1), .t 90, .c (.int .i64 15), .c (.int .i64 0)]⟩,
    ⟨6, some 92, none, .call .whole 123 [.t 91]⟩,
    ⟨7, some 93, none, .build [.int .i64 0, .int .i64 0] [(0, 1, .c (.int .i64 4))]⟩,
    ⟨8, some 94, none, .litI 2 [.t 93]⟩,
    ⟨9, some 95, none, .app 2 16 (.t 92) (.t 94)⟩, xm 10 6 95] [6])
  .ret)
  .skip))))))))))))))
  (.seq (.reg [xm 0 96 0,
    ⟨1, some 97, none, .call .whole 76 [.t 96, .c (.int .i64 50)]⟩, xm 2 98 0,
    ⟨3, some 99, none, .call .whole 76 [.t 98, .c (.int .i64 50)]⟩,
    ⟨4, some 100, none, .litI 1 [.c (.int .i64 1), .t 97, .c (.int .i64 1), .t 99, .c (.int .i64 5), .c (.int .i64 0), .c (.int .i64 16), .c (.int .i64 0)]⟩,
    ⟨5, some 101, none, .call .whole 123 [.t 100]⟩, xm 6 6 101] [6])
  .ret)))⟩
def b_114_0 : AC := (.seq (.seq (.reg [xm 0 6 4, xm 1 7 0,
    ⟨2, some 8, none, .bin .lss (.t 6) (.t 7)⟩] [0, 3, 4, 8])
  (.cond (.t 8)
  .skip
  (.exit 0)))
  (.seq (.block 1
  (.reg [xm 0 11 3,
    ⟨1, some 12, none, .build [.int .i64 0, .int .i64 0] []⟩,
    ⟨2, some 13, none, .litI 2 [.t 12]⟩,
    ⟨3, some 14, none, .app 2 16 (.t 11) (.t 13)⟩, xm 4 3 14] [0, 3, 4]))
  (.reg [xm 0 9 4,
    ⟨1, some 10, none, .bin .add (.t 9) (.c (.int .i64 1))⟩, xm 2 4 10] [0, 3, 4])))
def l_114_0 : AC := b_114_0
theorem u_114_0 {A : Nat → Option AFn} {mt : Nat → Nat → Option Nat} {fr : Fr} {G : AG} {S : List KF} : evS A mt l_114_0 fr G S = evS A mt b_114_0 fr G S := rfl
/-- spec.l11None -/
def c_114 : AFn := ⟨1, 16, [], [.t 2],
  (.seq (.reg [⟨0, some 2, none, .mv (.c (.nils))⟩] [0])
  (.seq (.reg [⟨0, some 5, none, .litO 2 []⟩, xm 1 3 5] [0, 3])
  (.seq (.seq (.reg [⟨0, some 4, none, .mv (.c (.int .i64 0))⟩] [0, 3, 4])
  (.block 0
  (.loop l_114_0)))
  (.seq (.reg [xm 0 15 3, xm 1 2 15] [2])
  .ret))))⟩
/-- spec.l11Copy -/
def c_115 : AFn := ⟨1, 14, [1, 2], [.c 2 (some 6)],
  (.seq (.reg [⟨0, some 1, none, .boxP (.t 0)⟩,
    ⟨1, some 2, none, .allocP [.int .i64 0, .int .i64 0, .nils, .nils, .int .i64 0, .bool false]⟩] [1, 2])
  (.seq (.reg [⟨0, some 3, none, .litO 2 []⟩, xf 1 4 2 1, xl 2 5 4,
    ⟨3, some 6, none, .app 2 16 (.t 3) (.t 5)⟩, xf 4 7 2 1,
    ⟨5, none, none, .store 1 (.t 7) (.t 6)⟩] [1, 2])
  (.seq (.reg [⟨0, some 8, none, .litO 2 []⟩, xf 1 9 3 1, xl 2 10 9,
    ⟨3, some 11, none, .app 2 16 (.t 8) (.t 10)⟩, xf 4 12 3 1,
    ⟨5, none, none, .store 1 (.t 12) (.t 11)⟩] [1, 2])
  (.seq (.reg [xL 0 13 6 1,
    ⟨1, none, none, .store 6 (.t 2) (.t 13)⟩] [2])
  .ret))))⟩
/-- (*spec.l11Heap).now -/
def c_116 : AFn := ⟨1, 14, [], [.t 2],
  (.seq (.reg [⟨0, some 2, none, .mv (.c (.nilp))⟩] [0])
  (.seq (.reg [xm 0 3 0, xn 1 4 3, xf 2 5 1 4, xf 3 6 0 5, xl 4 7 6, xm 5 8 0, xn 6 9 8, xf 7 10 1 9, xf 8 11 1 10, xl 9 12 11, xi 10 13 6 7 12, xm 11 2 13] [2])
  .ret))⟩
/-- spec.OpTakes -/
def c_117 : AFn := ⟨2, 46, [2, 3], [.t 4, .t 5],
  (.seq (.reg [⟨0, some 2, none, .boxP (.t 0)⟩,
    ⟨1, some 3, none, .boxP (.t 1)⟩,
    ⟨2, some 4, none, .mv (.c (.int .i64 0))⟩,
    ⟨3, some 5, none, .mv (.c (.int .i64 0))⟩] [2, 3])
  (.seq (.seq (.reg [xf 0 6 0 3, xl 1 7 6] [2, 3, 7])
  (.block 0
  (.seq (.seq (.reg [⟨0, some 9, none, .bin .eql (.t 7) (.c (.int .i64 1))⟩, xm 1 8 9] [2, 3, 7, 8])
  (.cond (.t 8)
  .skip
  (.seq (.reg [⟨0, some 10, none, .bin .eql (.t 7) (.c (.int .i64 2))⟩, xm 1 8 10] [2, 3, 7, 8])
  (.cond (.t 8)
  .skip
  (.reg [⟨0, some 11, none, .bin .eql (.t 7) (.c (.int .i64 11))⟩, xm 1 8 11] [2, 3, 7, 8])))))
  (.cond (.t 8)
  (.seq (.reg [⟨0, some 4, none, .mv (.c (.int .i64 0))⟩,
    ⟨1, some 5, none, .mv (.c (.int .i64 1))⟩] [4, 5])
  .ret)
  (.seq (.seq (.reg [⟨0, some 13, none, .bin .eql (.t 7) (.c (.int .i64 3))⟩, xm 1 12 13] [2, 3, 7, 12])
  (.cond (.t 12)
  .skip
  (.seq (.reg [⟨0, some 14, none, .bin .eql (.t 7) (.c (.int .i64 4))⟩, xm 1 12 14] [2, 3, 7, 12])
  (.cond (.t 12)
  .skip
  (.seq (.reg [⟨0, some 15, none, .bin .eql (.t 7) (.c (.int .i64 8))⟩, xm 1 12 15] [2, 3, 7, 12])
  (.cond (.t 12)
  .skip
  (.seq (.reg [⟨0, some 16, none, .bin .eql (.t 7) (.c (.int .i64 10))⟩, xm 1 12 16] [2, 3, 7, 12])
  (.cond (.t 12)
  .skip
  (.reg [⟨0, some 17, none, .bin .eql (.t 7) (.c (.int .i64 16))⟩, xm 1 12 17] [2, 3, 7, 12])))))))))
  (.cond (.t 12)
  (.seq (.reg [⟨0, some 4, none, .mv (.c (.int .i64 1))⟩,
    ⟨1, some 5, none, .mv (.c (.int .i64 0))⟩] [4, 5])
  .ret)
  (.seq (.seq (.reg [⟨0, some 19, none, .bin .eql (.t 7) (.c (.int .i64 5))⟩, xm 1 18 19] [2, 3, 7, 18])
  (.cond (.t 18)
  .skip
  (.reg [⟨0, some 20, none, .bin .eql (.t 7) (.c (.int .i64 6))⟩, xm 1 18 20] [2, 3, 7, 18])))
  (.cond (.t 18)
  (.seq (.reg [⟨0, some 4, none, .mv (.c (.int .i64 2))⟩,
    ⟨1, some 5, none, .mv (.c (.int .i64 1))⟩] [4, 5])
  .ret)
  (.seq (.seq (.reg [⟨0, some 22, none, .bin .eql (.t 7) (.c (.int .i64 12))⟩, xm 1 21 22] [2, 3, 7, 21])
  (.cond (.t 21)
  .skip
  (.seq (.reg [⟨0, some 23, none, .bin .eql (.t 7) (.c (.int .i64 13))⟩, xm 1 21 23] [2, 3, 7, 21])
  (.cond (.t 21)
  .skip
  (.seq (.reg [⟨0, some 24, none, .bin .eql (.t 7) (.c (.int .i64 17))⟩, xm 1 21 24] [2, 3, 7, 21])
  (.cond (.t 21)
  .skip
  (.reg [⟨0, some 25, none, .bin .eql (.t 7) (.c (.int .i64 18))⟩, xm 1 21 25] [2, 3, 7, 21])))))))
  (.cond (.t 21)
  (.seq (.reg [⟨0, some 4, none, .mv (.c (.int .i64 1))⟩,
    ⟨1, some 5, none, .mv (.c (.int .i64 1))⟩] [4, 5])
  .ret)
  (.seq (.reg [⟨0, some 27, none, .bin .eql (.t 7) (.c (.int .i64 14))⟩, xm 1 26 27] [2, 3, 7, 26])
  (.cond (.t 26)
  (.seq (.reg [⟨0, some 4, none, .mv (.c (.int .i64 2))⟩,
    ⟨1, some 5, none, .mv (.c (.int .i64 0))⟩] [4, 5])
  .ret)
  (.seq (.reg [⟨0, some 29, none, .bin .eql (.t 7) (.c (.int .i64 15))⟩, xm 1 28 29] [2, 3, 7, 28])
  (.cond (.t 28)
  (.seq (.reg [⟨0, some 4, none, .mv (.c (.int .i64 2))⟩,
    ⟨1, some 5, none, .mv (.c (.int .i64 1))⟩] [4, 5])
  .ret)
  (.seq (.reg [⟨0, some 31, none, .bin .eql (.t 7) (.c (.int .i64 9))⟩, xm 1 30 31] [2, 3, 30])
  (.cond (.t 30)
  (.seq (.reg [xf 0 32 1 3, xl 1 33 32, xf 2 34 0 2, xl 3 35 34,
    ⟨4, some 36, none, .len (.t 35)⟩,
    ⟨5, some 37, none, .bin .sub (.t 36) (.c (.int .i64 1))⟩,
    ⟨6, some 38, none, .call (.alone false true) 55 [.t 33, .c (.int .i64 0), .t 37]⟩] [2, 3, 38])
  (.cond (.t 38)
  (.seq (.reg [xf 0 39 0 2, xl 1 40 39, xf 2 41 1 3, xl 3 42 41, xi 4 43 3 40 42, xf 5 44 0 43, xl 6 45 44, xm 7 4 45,
    ⟨8, some 5, none, .mv (.c (.int .i64 1))⟩] [4, 5])
  .ret)
  .skip))
  .skip))))))))))))))))
  (.seq (.reg [⟨0, some 4, none, .mv (.c (.int .i64 0))⟩,
    ⟨1, some 5, none, .mv (.c (.int .i64 0))⟩] [4, 5])
  .ret)))⟩
/-- spec.l11Kinds -/
def c_118 : AFn := ⟨2, 33, [2], [.t 4],
  (.seq (.reg [⟨0, some 2, none, .boxP (.t 0)⟩,
    ⟨1, some 4, none, .mv (.c (.bool false))⟩] [1, 2])
  (.seq (.seq (.reg [xf 0 5 0 2, xl 1 6 5] [1, 6])
  (.block 0
  (.seq (.reg [⟨0, some 8, none, .bin .eql (.t 6) (.c (.int .i64 5))⟩, xm 1 7 8] [1, 6, 7])
  (.cond (.t 7)
  (.seq (.reg [xm 0 9 1,
    ⟨1, some 10, none, .idx 2 (.t 9) (.c (.int .i64 0))⟩, xf 2 11 0 10, xl 3 12 11,
    ⟨4, some 13, none, .bin .eql (.t 12) (.c (.int .i64 1))⟩, xm 5 14 13,
    ⟨6, some 15, some (14, true), .mv (.t 1)⟩,
    ⟨7, some 16, some (14, true), .idx 2 (.t 15) (.c (.int .i64 1))⟩,
    ⟨8, some 17, some (14, true), .fld 0 (.t 16)⟩,
    ⟨9, some 18, some (14, true), .load none (.t 17)⟩,
    ⟨10, some 19, some (14, true), .bin .eql (.t 18) (.c (.int .i64 1))⟩,
    ⟨11, some 20, none, .pick (.t 14) (.t 19) (.c (.bool false))⟩, xm 12 4 20] [4])
  .ret)
  (.seq (.seq (.reg [⟨0, some 22, none, .bin .eql (.t 6) (.c (.int .i64 12))⟩, xm 1 21 22] [1, 6, 21])
  (.cond (.t 21)
  .skip
  (.seq (.reg [⟨0, some 23, none, .bin .eql (.t 6) (.c (.int .i64 13))⟩, xm 1 21 23] [1, 6, 21])
  (.cond (.t 21)
  .skip
  (.seq (.reg [⟨0, some 24, none, .bin .eql (.t 6) (.c (.int .i64 17))⟩, xm 1 21 24] [1, 6, 21])
  (.cond (.t 21)
  .skip
  (.seq (.reg [⟨0, some 25, none, .bin .eql (.t 6) (.c (.int .i64 18))⟩, xm 1 21 25] [1, 6, 21])
  (.cond (.t 21)
  .skip
  (.seq (.reg [⟨0, some 26, none, .bin .eql (.t 6) (.c (.int .i64 14))⟩, xm 1 21 26] [1, 6, 21])
  (.cond (.t 21)
  .skip
  (.reg [⟨0, some 27, none, .bin .eql (.t 6) (.c (.int .i64 15))⟩, xm 1 21 27] [1, 21])))))))))))
  (.cond (.t 21)
  (.seq (.reg [xm 0 28 1,
    ⟨1, some 29, none, .idx 2 (.t 28) (.c (.int .i64 0))⟩, xf 2 30 0 29, xl 3 31 30,
    ⟨4, some 32, none, .bin .eql (.t 31) (.c (.int .i64 2))⟩, xm 5 4 32] [4])
  .ret)
  .skip))))))
  (.seq (.reg [⟨0, some 4, none, .mv (.c (.bool true))⟩] [4])
  .ret)))⟩
/-- (*spec.l11Heap).do -/
def c_119 : AFn := ⟨3, 193, [4, 7], [],
  (.seq (.reg [⟨0, some 4, none, .boxP (.t 1)⟩] [0, 2, 4])
  (.seq (.reg [xm 0 9 0,
    ⟨1, some 10, none, .call .whole 116 [.t 9]⟩, xm 2 6 10] [0, 2, 4, 6])
  (.seq (.reg [xL 0 12 2 4, xm 1 13 2,
    ⟨2, some 14, none, .call (.alone false true) 127 [.t 12, .t 13]⟩, xm 3 11 14,
    ⟨4, some 15, none, .ext (.t 11) 0⟩,
    ⟨5, some 16, none, .ext (.t 11) 1⟩,
    ⟨6, some 7, none, .allocP [.int .i64 0, .int .i64 0]⟩,
    ⟨7, none, none, .store 2 (.t 7) (.t 15)⟩, xm 8 8 16] [0, 2, 4, 6, 7, 8])
  (.seq (.seq (.reg [xm 0 17 8] [0, 2, 4, 6, 7, 17])
  (.cond (.t 17)
  (.seq (.reg [xm 0 18 6, xm 1 19 6, xn 2 20 19, xf 3 21 3 20, xl 4 22 21, xL 5 23 2 7,
    ⟨6, some 24, none, .litI 2 [.t 23]⟩,
    ⟨7, some 25, none, .app 2 16 (.t 22) (.t 24)⟩, xn 8 26 18, xf 9 27 3 26,
    ⟨10, none, none, .store 1 (.t 27) (.t 25)⟩] [])
  .ret)
  .skip))
  (.seq (.reg [xf 0 28 0 4, xl 1 29 28] [0, 2, 4, 6, 29])
  (.block 0
  (.seq (.reg [⟨0, some 31, none, .bin .eql (.t 29) (.c (.int .i64 2))⟩, xm 1 30 31] [0, 2, 4, 6, 29, 30])
  (.cond (.t 30)
  (.reg [xm 0 32 6, xm 1 33 6, xn 2 34 33, xf 3 35 3 34, xl 4 36 35, xm 5 37 6, xn 6 38 37, xf 7 39 2 38, xl 8 40 39, xf 9 41 1 4, xl 10 42 41, xi 11 43 2 40 42, xL 12 44 2 43,
    ⟨13, some 45, none, .litI 2 [.t 44]⟩,
    ⟨14, some 46, none, .app 2 16 (.t 36) (.t 45)⟩, xn 15 47 32, xf 16 48 3 47,
    ⟨17, none, none, .store 1 (.t 48) (.t 46)⟩] [])
  (.seq (.reg [⟨0, some 50, none, .bin .eql (.t 29) (.c (.int .i64 3))⟩, xm 1 49 50] [0, 2, 4, 6, 29, 49])
  (.cond (.t 49)
  (.reg [xm 0 51 6, xn 1 52 51, xf 2 53 2 52, xl 3 54 53, xf 4 55 1 4, xl 5 56 55, xm 6 57 2,
    ⟨7, some 58, none, .idx 2 (.t 57) (.c (.int .i64 0))⟩, xL 8 59 2 58, xi 9 60 2 54 56,
    ⟨10, none, none, .store 2 (.t 60) (.t 59)⟩] [])
  (.seq (.reg [⟨0, some 62, none, .bin .eql (.t 29) (.c (.int .i64 7))⟩, xm 1 61 62] [0, 2, 4, 6, 29, 61])
  (.cond (.t 61)
  (.reg [xm 0 63 6, xf 1 64 1 4, xl 2 65 64, xn 3 66 63, xf 4 67 1 66,
    ⟨5, none, none, .store 1 (.t 67) (.t 65)⟩] [])
  (.seq (.reg [⟨0, some 69, none, .bin .eql (.t 29) (.c (.int .i64 8))⟩, xm 1 68 69] [0, 2, 4, 6, 29, 68])
  (.cond (.t 68)
  (.seq (.reg [xm 0 70 2,
    ⟨1, some 71, none, .idx 2 (.t 70) (.c (.int .i64 0))⟩, xf 2 72 0 71, xl 3 73 72,
    ⟨4, some 74, none, .bin .eql (.t 73) (.c (.int .i64 0))⟩, xm 5 75 74,
    ⟨6, some 76, some (75, false), .mv (.t 2)⟩,
    ⟨7, some 77, some (75, false), .idx 2 (.t 76) (.c (.int .i64 0))⟩,
    ⟨8, some 78, some (75, false), .load (some 2) (.t 77)⟩,
    ⟨9, some 79, some (75, false), .call (.alone false true) 128 [.c (.int .i64 0)]⟩,
    ⟨7, none, some (75, false), .again 77 (.idx 2 (.t 76) (.c (.int .i64 0)))⟩,
    ⟨8, none, some (75, false), .again 78 (.load (some 2) (.t 77))⟩,
    ⟨10, some 80, some (75, false), .eqk (.st [true, true]) false (.t 78) (.t 79)⟩,
    ⟨11, some 81, none, .pick (.t 75) (.c (.bool true)) (.t 80)⟩] [4, 6, 81])
  (.cond (.t 81)
  (.reg [xm 0 82 6, xf 1 83 1 4, xl 2 84 83, xn 3 85 82, xf 4 86 1 85,
    ⟨5, none, none, .store 1 (.t 86) (.t 84)⟩] [])
  .skip))
  (.seq (.reg [⟨0, some 88, none, .bin .eql (.t 29) (.c (.int .i64 9))⟩, xm 1 87 88] [0, 2, 4, 6, 29, 87])
  (.cond (.t 87)
  (.reg [xm 0 89 0, xf 1 90 1 4, xl 2 91 90, xm 3 92 2,
    ⟨4, some 93, none, .call .whole 129 [.t 89, .t 91, .t 92]⟩] [])
  (.seq (.reg [⟨0, some 95, none, .bin .eql (.t 29) (.c (.int .i64 10))⟩, xm 1 94 95] [0, 2, 4, 6, 29, 94])
  (.cond (.t 94)
  (.reg [xm 0 96 0, xm 1 97 2,
    ⟨2, some 98, none, .idx 2 (.t 97) (.c (.int .i64 0))⟩, xL 3 99 2 98,
    ⟨4, some 100, none, .call .whole 130 [.t 96, .t 99]⟩] [])
  (.seq (.reg [⟨0, some 102, none, .bin .eql (.t 29) (.c (.int .i64 11))⟩, xm 1 101 102] [0, 2, 4, 6, 29, 101])
  (.cond (.t 101)
  (.reg [xm 0 103 6, xm 1 104 6, xn 2 105 104, xf 3 106 3 105, xl 4 107 106, xm 5 108 0, xn 6 109 108, xf 7 110 1 109, xf 8 111 1 110, xl 9 112 111,
    ⟨10, some 113, none, .build [.int .i64 0, .int .i64 0] [(0, 1, .c (.int .i64 2)), (1, 1, .t 112)]⟩,
    ⟨11, some 114, none, .litI 2 [.t 113]⟩,
    ⟨12, some 115, none, .app 2 16 (.t 107) (.t 114)⟩, xn 13 116 103, xf 14 117 3 116,
    ⟨15, none, none, .store 1 (.t 117) (.t 115)⟩] [])
  (.seq (.seq (.reg [⟨0, some 119, none, .bin .eql (.t 29) (.c (.int .i64 12))⟩, xm 1 118 119] [0, 2, 4, 6, 29, 118])
  (.cond (.t 118)
  .skip
  (.seq (.reg [⟨0, some 120, none, .bin .eql (.t 29) (.c (.int .i64 13))⟩, xm 1 118 120] [0, 2, 4, 6, 29, 118])
  (.cond (.t 118)
  .skip
  (.seq (.reg [⟨0, some 121, none, .bin .eql (.t 29) (.c (.int .i64 17))⟩, xm 1 118 121] [0, 2, 4, 6, 29, 118])
  (.cond (.t 118)
  .skip
  (.reg [⟨0, some 122, none, .bin .eql (.t 29) (.c (.int .i64 18))⟩, xm 1 118 122] [0, 2, 4, 6, 29, 118])))))))
  (.cond (.t 118)
  (.reg [xm 0 123 6, xm 1 124 6, xn 2 125 124, xf 3 126 3 125, xl 4 127 126, xm 5 128 0, xL 6 129 2 4, xm 7 130 2,
    ⟨8, some 131, none, .idx 2 (.t 130) (.c (.int .i64 0))⟩, xf 9 132 1 131, xl 10 133 132,
    ⟨11, some 134, none, .call .whole 131 [.t 128, .t 129, .t 133]⟩,
    ⟨4, none, none, .again 127 (.load none (.t 126))⟩,
    ⟨12, some 135, none, .litI 2 [.t 134]⟩,
    ⟨13, some 136, none, .app 2 16 (.t 127) (.t 135)⟩, xn 14 137 123, xf 15 138 3 137,
    ⟨16, none, none, .store 1 (.t 138) (.t 136)⟩] [])
  (.seq (.reg [⟨0, some 140, none, .bin .eql (.t 29) (.c (.int .i64 14))⟩, xm 1 139 140] [0, 2, 4, 29, 139])
  (.cond (.t 139)
  (.seq (.reg [xf 0 141 1 4, xl 1 142 141, xm 2 143 0, xn 3 144 143, xf 4 145 1 144, xf 5 146 0 145, xl 6 147 146, xm 7 148 2,
    ⟨8, some 149, none, .idx 2 (.t 148) (.c (.int .i64 0))⟩, xf 9 150 1 149, xl 10 151 150, xi 11 152 6 147 151, xf 12 153 2 152, xl 13 154 153,
    ⟨14, some 155, none, .len (.t 154)⟩,
    ⟨15, some 156, none, .bin .lss (.t 142) (.t 155)⟩] [0, 2, 4, 156])
  (.cond (.t 156)
  (.reg [xm 0 157 0, xn 1 158 157, xf 2 159 1 158, xf 3 160 0 159, xl 4 161 160, xm 5 162 2,
    ⟨6, some 163, none, .idx 2 (.t 162) (.c (.int .i64 0))⟩, xf 7 164 1 163, xl 8 165 164, xi 9 166 6 161 165, xf 10 167 2 166, xl 11 168 167, xf 12 169 1 4, xl 13 170 169, xm 14 171 2,
    ⟨15, some 172, none, .idx 2 (.t 171) (.c (.int .i64 1))⟩, xL 16 173 2 172, xi 17 174 2 168 170,
    ⟨18, none, none, .store 2 (.t 174) (.t 173)⟩] [])
  .skip))
  (.seq (.reg [⟨0, some 176, none, .bin .eql (.t 29) (.c (.int .i64 15))⟩, xm 1 175 176] [0, 2, 29, 175])
  (.cond (.t 175)
  (.reg [xm 0 177 0, xm 1 178 2,
    ⟨2, some 179, none, .idx 2 (.t 178) (.c (.int .i64 0))⟩, xf 3 180 1 179, xl 4 181 180, xm 5 182 2,
    ⟨6, some 183, none, .idx 2 (.t 182) (.c (.int .i64 1))⟩, xL 7 184 2 183,
    ⟨8, some 185, none, .call .whole 132 [.t 177, .t 181, .t 184]⟩] [])
  (.seq (.reg [⟨0, some 187, none, .bin .eql (.t 29) (.c (.int .i64 16))⟩, xm 1 186 187] [0, 2, 186])
  (.cond (.t 186)
  (.reg [xm 0 188 0, xm 1 189 2,
    ⟨2, some 190, none, .idx 2 (.t 189) (.c (.int .i64 0))⟩, xL 3 191 2 190,
    ⟨4, some 192, none, .call .whole 133 [.t 188, .t 191]⟩] [])
  .skip))))))))))))))))))))))))))))⟩
def b_120_0 : AC := (.seq (.reg [⟨0, some 9, none, .bin .lss (.t 8) (.t 7)⟩] [0, 1, 7, 8, 9])
  (.seq (.cond (.t 9)
  .skip
  (.exit 0))
  (.seq (.block 1
  (.seq (.reg [xm 0 10 8, xm 1 5 10] [0, 1, 5, 7, 8])
  (.seq (.reg [xm 0 11 1, xm 1 12 0, xm 2 13 5, xi 3 14 1 12 13, xl 4 15 14,
    ⟨5, some 16, none, .bin .eql (.t 11) (.t 15)⟩] [0, 1, 5, 7, 8, 16])
  (.cond (.t 16)
  (.seq (.reg [xm 0 17 5, xm 1 4 17] [4])
  .ret)
  .skip))))
  (.reg [⟨0, some 18, none, .bin .add (.t 8) (.c (.int .i64 1))⟩, xm 1 8 18] [0, 1, 7, 8]))))
def l_120_0 : AC := b_120_0
theorem u_120_0 {A : Nat → Option AFn} {mt : Nat → Nat → Option Nat} {fr : Fr} {G : AG} {S : List KF} : evS A mt l_120_0 fr G S = evS A mt b_120_0 fr G S := rfl
/-- slices.Index[[]int,int] -/
def c_120 : AFn := ⟨2, 19, [], [.t 4],
  (.seq (.reg [⟨0, some 4, none, .mv (.c (.int .i64 0))⟩] [0, 1])
  (.seq (.seq (.reg [xm 0 6 0,
    ⟨1, some 7, none, .len (.t 6)⟩,
    ⟨2, some 8, none, .mv (.c (.int .i64 0))⟩] [0, 1, 7, 8])
  (.block 0
  (.loop l_120_0)))
  (.seq (.reg [⟨0, some 4, none, .mv (.c (.int .i64 (-1)))⟩] [4])
  .ret)))⟩
/-- (impl.Frame).cells -/
def c_121 : AFn := ⟨1, 8, [1], [.t 2],
  (.seq (.reg [⟨0, some 1, none, .boxP (.t 0)⟩,
    ⟨1, some 2, none, .mv (.c (.int .i64 0))⟩] [1])
  (.seq (.reg [xf 0 3 3 1, xl 1 4 3,
    ⟨2, some 5, none, .len (.t 4)⟩,
    ⟨3, some 6, none, .bin .add (.c (.int .i64 4)) (.t 5)⟩,
    ⟨4, some 7, none, .bin .add (.t 6) (.c (.int .i64 6))⟩, xm 5 2 7] [2])
  .ret))⟩
/-- impl.manners -/
def c_122 : AFn := ⟨0, 53, [], [.t 0],
  (.seq (.reg [⟨0, some 0, none, .mv (.c (.nils))⟩] [])
  (.seq (.reg [⟨0, some 1, none, .mv (.c (.func 134 []))⟩] [1])
  (.seq (.reg [⟨0, some 2, none, .mv (.c (.func 136 []))⟩] [1, 2])
  (.seq (.reg [⟨0, some 3, none, .mv (.c (.func 137 []))⟩] [1, 2, 3])
  (.seq (.reg [⟨0, some 4, none, .mv (.c (.func 138 []))⟩] [1, 2, 3, 4])
  (.seq (.reg [⟨0, some 7, none, .litI 1 [.c (.int .i64 (-1))]⟩,
    ⟨1, some 8, none, .litI 1 [.c (.int .i64 2)]⟩, xm 2 5 7, xm 3 6 8] [1, 2, 3, 4, 5, 6])
  (.seq (.reg [⟨0, some 9, none, .build [.str ⟨#[]⟩, .int .i64 0, .int .i64 0, .nils, .nilf] []⟩, xm 1 10 1,
    ⟨2, some 11, none, .callv (.alone false true) (.t 10) [.c (.int .i64 100)]⟩,
    ⟨3, some 12, none, .build [.str ⟨#[]⟩, .int .i64 0, .int .i64 0, .nils, .nilf] [(0, 1, .c (.str ⟨#[110, 117, 109]⟩)), (1, 1, .c (.int .i64 0)), (2, 1, .c (.int .i64 1)), (3, 1, .c (.nils)), (4, 1, .t 11)]⟩, xm 4 13 2,
    ⟨5, some 14, none, .build [.str ⟨#[]⟩, .int .i64 0, .int .i64 0, .nils, .nilf] [(0, 1, .c (.str ⟨#[116, 101, 109, 112]⟩)), (1, 1, .c (.int .i64 0)), (2, 1, .c (.int .i64 1)), (3, 1, .c (.nils)), (4, 1, .t 13)]⟩, xm 6 15 5, xm 7 16 2,
    ⟨8, some 17, none, .build [.str ⟨#[]⟩, .int .i64 0, .int .i64 0, .nils, .nilf] [(0, 1, .c (.str ⟨#[115, 101, 116]⟩)), (1, 1, .c (.int .i64 1)), (2, 1, .c (.int .i64 0)), (3, 1, .t 15), (4, 1, .t 16)]⟩, xm 9 18 5,
    ⟨10, some 19, none, .build [.str ⟨#[]⟩, .int .i64 0, .int .i64 0, .nils, .nilf] [(0, 1, .c (.str ⟨#[100, 114, 111, 112]⟩)), (1, 1, .c (.int .i64 1)), (2, 1, .c (.int .i64 0)), (3, 1, .t 18), (4, 1, .c (.nilf))]⟩,
    ⟨11, some 20, none, .litI 1 [.c (.int .i64 1), .c (.int .i64 1)]⟩,
    ⟨12, some 21, none, .build [.str ⟨#[]⟩, .int .i64 0, .int .i64 0, .nils, .nilf] [(0, 1, .c (.str ⟨#[97, 100, 100]⟩)), (1, 1, .c (.int .i64 2)), (2, 1, .c (.int .i64 1)), (3, 1, .t 20), (4, 1, .c (.nilf))]⟩,
    ⟨13, some 22, none, .litI 1 [.c (.int .i64 (-1)), .c (.int .i64 (-1))]⟩,
    ⟨14, some 23, none, .build [.str ⟨#[]⟩, .int .i64 0, .int .i64 0, .nils, .nilf] [(0, 1, .c (.str ⟨#[115, 97, 109, 101]⟩)), (1, 1, .c (.int .i64 2)), (2, 1, .c (.int .i64 1)), (3, 1, .t 22), (4, 1, .c (.nilf))]⟩, xm 15 24 3,
    ⟨16, some 25, none, .build [.str ⟨#[]⟩, .int .i64 0, .int .i64 0, .nils, .nilf] [(0, 1, .c (.str ⟨#[106, 117, 109, 112]⟩)), (1, 1, .c (.int .i64 0)), (2, 1, .c (.int .i64 0)), (3, 1, .c (.nils)), (4, 1, .t 24)]⟩, xm 17 26 5, xm 18 27 3,
    ⟨19, some 28, none, .build [.str ⟨#[]⟩, .int .i64 0, .int .i64 0, .nils, .nilf] [(0, 1, .c (.str ⟨#[122, 101, 114, 111]⟩)), (1, 1, .c (.int .i64 1)), (2, 1, .c (.int .i64 0)), (3, 1, .t 26), (4, 1, .t 27)]⟩, xm 20 29 4,
    ⟨21, some 30, none, .build [.str ⟨#[]⟩, .int .i64 0, .int .i64 0, .nils, .nilf] [(0, 1, .c (.str ⟨#[99, 97, 108, 108]⟩)), (1, 1, .c (.int .i64 0)), (2, 1, .c (.int .i64 1)), (3, 1, .c (.nils)), (4, 1, .t 29)]⟩, xm 22 31 5,
    ⟨23, some 32, none, .build [.str ⟨#[]⟩, .int .i64 0, .int .i64 0, .nils, .nilf] [(0, 1, .c (.str ⟨#[114, 101, 116]⟩)), (1, 1, .c (.int .i64 1)), (2, 1, .c (.int .i64 0)), (3, 1, .t 31), (4, 1, .c (.nilf))]⟩,
    ⟨24, some 33, none, .build [.str ⟨#[]⟩, .int .i64 0, .int .i64 0, .nils, .nilf] [(0, 1, .c (.str ⟨#[104, 101, 114, 101]⟩)), (1, 1, .c (.int .i64 0)), (2, 1, .c (.int .i64 1)), (3, 1, .c (.nils)), (4, 1, .c (.nilf))]⟩, xm 25 34 6,
    ⟨26, some 35, none, .build [.str ⟨#[]⟩, .int .i64 0, .int .i64 0, .nils, .nilf] [(0, 1, .c (.str ⟨#[115, 101, 110, 100, 101, 114]⟩)), (1, 1, .c (.int .i64 1)), (2, 1, .c (.int .i64 1)), (3, 1, .t 34), (4, 1, .c (.nilf))]⟩, xm 27 36 6, xm 28 37 1,
    ⟨29, some 38, none, .callv (.alone false true) (.t 37) [.c (.int .i64 4)]⟩,
    ⟨30, some 39, none, .build [.str ⟨#[]⟩, .int .i64 0, .int .i64 0, .nils, .nilf] [(0, 1, .c (.str ⟨#[112, 101, 101, 107]⟩)), (1, 1, .c (.int .i64 1)), (2, 1, .c (.int .i64 1)), (3, 1, .t 36), (4, 1, .t 38)]⟩,
    ⟨31, some 40, none, .litI 1 [.c (.int .i64 2), .c (.int .i64 (-1))]⟩, xm 32 41 1,
    ⟨33, some 42, none, .callv (.alone false true) (.t 41) [.c (.int .i64 4)]⟩,
    ⟨34, some 43, none, .build [.str ⟨#[]⟩, .int .i64 0, .int .i64 0, .nils, .nilf] [(0, 1, .c (.str ⟨#[112, 111, 107, 101]⟩)), (1, 1, .c (.int .i64 2)), (2, 1, .c (.int .i64 0)), (3, 1, .t 40), (4, 1, .t 42)]⟩,
    ⟨35, some 44, none, .litI 1 [.c (.int .i64 2), .c (.int .i64 (-1))]⟩,
    ⟨36, some 45, none, .build [.str ⟨#[]⟩, .int .i64 0, .int .i64 0, .nils, .nilf] [(0, 1, .c (.str ⟨#[98, 97, 99, 107]⟩)), (1, 1, .c (.int .i64 2)), (2, 1, .c (.int .i64 1)), (3, 1, .t 44), (4, 1, .c (.nilf))]⟩, xm 37 46 5,
    ⟨38, some 47, none, .build [.str ⟨#[]⟩, .int .i64 0, .int .i64 0, .nils, .nilf] [(0, 1, .c (.str ⟨#[115, 97, 121]⟩)), (1, 1, .c (.int .i64 1)), (2, 1, .c (.int .i64 0)), (3, 1, .t 46), (4, 1, .c (.nilf))]⟩, xm 39 48 6,
    ⟨40, some 49, none, .build [.str ⟨#[]⟩, .int .i64 0, .int .i64 0, .nils, .nilf] [(0, 1, .c (.str ⟨#[100, 101, 97, 100]⟩)), (1, 1, .c (.int .i64 1)), (2, 1, .c (.int .i64 1)), (3, 1, .t 48), (4, 1, .c (.nilf))]⟩, xm 41 50 6,
    ⟨42, some 51, none, .build [.str ⟨#[]⟩, .int .i64 0, .int .i64 0, .nils, .nilf] [(0, 1, .c (.str ⟨#[119, 104, 101, 114, 101]⟩)), (1, 1, .c (.int .i64 1)), (2, 1, .c (.int .i64 1)), (3, 1, .t 50), (4, 1, .c (.nilf))]⟩,
    ⟨43, some 52, none, .litI 5 [.t 9, .t 12, .t 14, .t 17, .t 19, .t 21, .t 23, .t 25, .t 28, .t 30, .t 32, .t 33, .t 35, .t 39, .t 43, .t 45, .t 47, .t 49, .t 51]⟩, xm 44 0 52] [0])
  .ret)))))))⟩
def b_123_0 : AC := (.seq (.seq (.reg [xm 0 6 4,
    ⟨1, some 7, none, .bin .add (.t 6) (.c (.int .i64 1))⟩, xm 2 8 0,
    ⟨3, some 9, none, .len (.t 8)⟩,
    ⟨4, some 10, none, .bin .lss (.t 7) (.t 9)⟩] [0, 3, 4, 10])
  (.cond (.t 10)
  .skip
  (.exit 0)))
  (.seq (.block 1
  (.reg [xm 0 13 3, xm 1 14 0, xm 2 15 4, xi 3 16 1 14 15, xl 4 17 16, xm 5 18 0, xm 6 19 4,
    ⟨7, some 20, none, .bin .add (.t 19) (.c (.int .i64 1))⟩, xi 8 21 1 18 20, xl 9 22 21,
    ⟨10, some 23, none, .build [.int .i64 0, .int .i64 0] [(0, 1, .t 17), (1, 1, .t 22)]⟩,
    ⟨11, some 24, none, .litI 2 [.t 23]⟩,
    ⟨12, some 25, none, .app 2 16 (.t 13) (.t 24)⟩, xm 13 3 25] [0, 3, 4]))
  (.reg [xm 0 11 4,
    ⟨1, some 12, none, .bin .add (.t 11) (.c (.int .i64 2))⟩, xm 2 4 12] [0, 3, 4])))
def l_123_0 : AC := b_123_0
theorem u_123_0 {A : Nat → Option AFn} {mt : Nat → Nat → Option Nat} {fr : Fr} {G : AG} {S : List KF} : evS A mt l_123_0 fr G S = evS A mt b_123_0 fr G S := rfl
/-- spec.l71Ops -/
def c_123 : AFn := ⟨1, 27, [], [.t 2],
  (.seq (.reg [⟨0, some 2, none, .mv (.c (.nils))⟩] [0])
  (.seq (.reg [⟨0, some 5, none, .litO 2 []⟩, xm 1 3 5] [0, 3])
  (.seq (.seq (.reg [⟨0, some 4, none, .mv (.c (.int .i64 0))⟩] [0, 3, 4])
  (.block 0
  (.loop l_123_0)))
  (.seq (.reg [xm 0 26 3, xm 1 2 26] [2])
  .ret))))⟩
/-- spec.l71End -/
def c_124 : AFn := ⟨2, 18, [4], [.c 4 (some 2)],
  (.seq (.reg [⟨0, some 4, none, .allocP [.int .i64 0, .int .i64 0]⟩] [0, 1, 4])
  (.seq (.seq (.reg [xm 0 5 0,
    ⟨1, some 6, none, .call .whole 76 [.t 5, .c (.int .i64 4)]⟩] [0, 1, 4, 6])
  (.block 0
  (.seq (.reg [⟨0, some 8, none, .bin .eql (.t 6) (.c (.int .i64 0))⟩, xm 1 7 8] [0, 1, 4, 6, 7])
  (.cond (.t 7)
  (.seq (.reg [⟨0, some 9, none, .build [.int .i64 0, .int .i64 0] [(0, 1, .c (.int .i64 4))]⟩,
    ⟨1, none, none, .store 2 (.t 4) (.t 9)⟩] [4])
  .ret)
  (.seq (.seq (.reg [⟨0, some 11, none, .bin .eql (.t 6) (.c (.int .i64 1))⟩, xm 1 10 11] [0, 1, 4, 6, 10])
  (.cond (.t 10)
  .skip
  (.reg [⟨0, some 12, none, .bin .eql (.t 6) (.c (.int .i64 2))⟩, xm 1 10 12] [0, 1, 4, 10])))
  (.cond (.t 10)
  (.seq (.reg [⟨0, some 13, none, .build [.int .i64 0, .int .i64 0] [(0, 1, .c (.int .i64 16))]⟩,
    ⟨1, none, none, .store 2 (.t 4) (.t 13)⟩] [4])
  .ret)
  .skip))))))
  (.seq (.reg [xm 0 14 0, xm 1 15 1,
    ⟨2, some 16, none, .call .whole 76 [.t 14, .t 15]⟩,
    ⟨3, some 17, none, .build [.int .i64 0, .int .i64 0] [(0, 1, .c (.int .i64 3)), (1, 1, .t 16)]⟩,
    ⟨4, none, none, .store 2 (.t 4) (.t 17)⟩] [4])
  .ret)))⟩
def b_125_0 : AC := (.seq (.seq (.reg [xm 0 10 8, xm 1 11 1,
    ⟨2, some 12, none, .bin .lss (.t 10) (.t 11)⟩] [0, 1, 2, 7, 8, 12])
  (.cond (.t 12)
  .skip
  (.exit 0)))
  (.seq (.block 1
  (.seq (.reg [xm 0 15 0,
    ⟨1, some 16, none, .call .whole 76 [.t 15, .c (.int .i64 4)]⟩] [0, 1, 2, 7, 8, 16])
  (.block 2
  (.seq (.reg [⟨0, some 25, none, .bin .eql (.t 16) (.c (.int .i64 0))⟩, xm 1 24 25] [0, 1, 2, 7, 8, 16, 24])
  (.cond (.t 24)
  (.reg [xm 0 26 7,
    ⟨1, some 27, none, .build [.int .i64 0, .int .i64 0] [(0, 1, .c (.int .i64 11))]⟩,
    ⟨2, some 28, none, .litI 2 [.t 27]⟩,
    ⟨3, some 29, none, .app 2 16 (.t 26) (.t 28)⟩, xm 4 7 29] [0, 1, 2, 7, 8])
  (.seq (.reg [⟨0, some 31, none, .bin .eql (.t 16) (.c (.int .i64 1))⟩, xm 1 30 31] [0, 1, 2, 7, 8, 30])
  (.cond (.t 30)
  (.reg [xm 0 32 7, xm 1 33 0,
    ⟨2, some 34, none, .call .whole 76 [.t 33, .c (.int .i64 10)]⟩,
    ⟨3, some 35, none, .build [.int .i64 0, .int .i64 0] [(0, 1, .c (.int .i64 1)), (1, 1, .t 34)]⟩,
    ⟨4, some 36, none, .litI 2 [.t 35]⟩,
    ⟨5, some 37, none, .app 2 16 (.t 32) (.t 36)⟩, xm 6 7 37] [0, 1, 2, 7, 8])
  (.reg [xm 0 17 7, xm 1 18 0, xm 2 19 2,
    ⟨3, some 20, none, .call .whole 76 [.t 18, .t 19]⟩,
    ⟨4, some 21, none, .build [.int .i64 0, .int .i64 0] [(0, 1, .c (.int .i64 2)), (1, 1, .t 20)]⟩,
    ⟨5, some 22, none, .litI 2 [.t 21]⟩,
    ⟨6, some 23, none, .app 2 16 (.t 17) (.t 22)⟩, xm 7 7 23] [0, 1, 2, 7, 8]))))))))
  (.reg [xm 0 13 8,
    ⟨1, some 14, none, .bin .add (.t 13) (.c (.int .i64 1))⟩, xm 2 8 14] [0, 1, 2, 7, 8])))
def l_125_0 : AC := b_125_0
theorem u_125_0 {A : Nat → Option AFn} {mt : Nat → Nat → Option Nat} {fr : Fr} {G : AG} {S : List KF} : evS A mt l_125_0 fr G S = evS A mt b_125_0 fr G S := rfl
/-- spec.l71Args -/
def c_125 : AFn := ⟨3, 39, [], [.t 6],
  (.seq (.reg [⟨0, some 6, none, .mv (.c (.nils))⟩] [0, 1, 2])
  (.seq (.reg [⟨0, some 9, none, .litO 2 []⟩, xm 1 7 9] [0, 1, 2, 7])
  (.seq (.seq (.reg [⟨0, some 8, none, .mv (.c (.int .i64 0))⟩] [0, 1, 2, 7, 8])
  (.block 0
  (.loop l_125_0)))
  (.seq (.reg [xm 0 38 7, xm 1 6 38] [6])
  .ret))))⟩
/-- spec.l71Look -/
def c_126 : AFn := ⟨2, 52, [], [.t 4],
  (.seq (.reg [⟨0, some 4, none, .mv (.c (.nils))⟩] [0, 1])
  (.seq (.reg [⟨0, some 6, none, .litI 1 [.c (.int .i64 11), .c (.int .i64 0)]⟩,
    ⟨1, some 7, none, .call .whole 123 [.t 6]⟩, xm 2 5 7] [0, 1, 5])
  (.seq (.seq (.reg [xm 0 8 0,
    ⟨1, some 9, none, .call .whole 76 [.t 8, .c (.int .i64 5)]⟩] [0, 1, 5, 9])
  (.block 0
  (.seq (.reg [⟨0, some 11, none, .bin .eql (.t 9) (.c (.int .i64 0))⟩, xm 1 10 11] [0, 1, 5, 9, 10])
  (.cond (.t 10)
  (.reg [xm 0 12 0, xm 1 13 1,
    ⟨2, some 14, none, .call .whole 76 [.t 12, .t 13]⟩,
    ⟨3, some 15, none, .litI 1 [.c (.int .i64 2), .t 14]⟩,
    ⟨4, some 16, none, .call .whole 123 [.t 15]⟩, xm 5 5 16] [0, 5])
  (.seq (.seq (.reg [⟨0, some 18, none, .bin .eql (.t 9) (.c (.int .i64 1))⟩, xm 1 17 18] [0, 5, 9, 17])
  (.cond (.t 17)
  .skip
  (.reg [⟨0, some 19, none, .bin .eql (.t 9) (.c (.int .i64 2))⟩, xm 1 17 19] [0, 5, 17])))
  (.cond (.t 17)
  (.reg [⟨0, some 20, none, .litI 1 [.c (.int .i64 11), .c (.int .i64 0), .c (.int .i64 12), .c (.int .i64 0)]⟩,
    ⟨1, some 21, none, .call .whole 123 [.t 20]⟩, xm 2 5 21] [0, 5])
  .skip))))))
  (.seq (.seq (.reg [xm 0 22 0,
    ⟨1, some 23, none, .call .whole 76 [.t 22, .c (.int .i64 6)]⟩] [0, 5, 23])
  (.block 1
  (.seq (.reg [⟨0, some 25, none, .bin .eql (.t 23) (.c (.int .i64 0))⟩, xm 1 24 25] [0, 5, 23, 24])
  (.cond (.t 24)
  (.seq (.reg [xm 0 26 5,
    ⟨1, some 27, none, .build [.int .i64 0, .int .i64 0] [(0, 1, .c (.int .i64 12))]⟩,
    ⟨2, some 28, none, .litI 2 [.t 27]⟩,
    ⟨3, some 29, none, .app 2 16 (.t 26) (.t 28)⟩, xm 4 4 29] [4])
  .ret)
  (.seq (.seq (.reg [⟨0, some 31, none, .bin .eql (.t 23) (.c (.int .i64 1))⟩, xm 1 30 31] [0, 5, 23, 30])
  (.cond (.t 30)
  .skip
  (.reg [⟨0, some 32, none, .bin .eql (.t 23) (.c (.int .i64 2))⟩, xm 1 30 32] [0, 5, 23, 30])))
  (.cond (.t 30)
  (.seq (.reg [xm 0 33 5, xm 1 34 0,
    ⟨2, some 35, none, .call .whole 76 [.t 34, .c (.int .i64 4)]⟩,
    ⟨3, some 36, none, .build [.int .i64 0, .int .i64 0] [(0, 1, .c (.int .i64 13)), (1, 1, .t 35)]⟩,
    ⟨4, some 37, none, .litI 2 [.t 36]⟩,
    ⟨5, some 38, none, .app 2 16 (.t 33) (.t 37)⟩, xm 6 4 38] [4])
  .ret)
  (.seq (.reg [⟨0, some 40, none, .bin .eql (.t 23) (.c (.int .i64 3))⟩, xm 1 39 40] [5, 23, 39])
  (.cond (.t 39)
  (.seq (.reg [xm 0 41 5,
    ⟨1, some 42, none, .build [.int .i64 0, .int .i64 0] [(0, 1, .c (.int .i64 17))]⟩,
    ⟨2, some 43, none, .litI 2 [.t 42]⟩,
    ⟨3, some 44, none, .app 2 16 (.t 41) (.t 43)⟩, xm 4 4 44] [4])
  .ret)
  (.seq (.reg [⟨0, some 46, none, .bin .eql (.t 23) (.c (.int .i64 4))⟩, xm 1 45 46] [5, 45])
  (.cond (.t 45)
  (.seq (.reg [xm 0 47 5,
    ⟨1, some 48, none, .build [.int .i64 0, .int .i64 0] [(0, 1, .c (.int .i64 18))]⟩,
    ⟨2, some 49, none, .litI 2 [.t 48]⟩,
    ⟨3, some 50, none, .app 2 16 (.t 47) (.t 49)⟩, xm 4 4 50] [4])
  .ret)
  .skip))))))))))
  (.seq (.reg [xm 0 51 5, xm 1 4 51] [4])
  .ret)))))⟩
/-- spec.l11Made -/
def c_127 : AFn := ⟨2, 37, [2, 4], [.c 4 (some 2), .t 5],
  (.seq (.reg [⟨0, some 2, none, .boxP (.t 0)⟩,
    ⟨1, some 4, none, .allocP [.int .i64 0, .int .i64 0]⟩,
    ⟨2, some 5, none, .mv (.c (.bool false))⟩] [1, 2, 4])
  (.seq (.seq (.reg [xf 0 6 0 2, xl 1 7 6] [1, 2, 4, 7])
  (.block 0
  (.seq (.reg [⟨0, some 9, none, .bin .eql (.t 7) (.c (.int .i64 1))⟩, xm 1 8 9] [1, 2, 4, 7, 8])
  (.cond (.t 8)
  (.seq (.reg [xf 0 10 1 2, xl 1 11 10,
    ⟨2, some 12, none, .call (.alone false true) 128 [.t 11]⟩,
    ⟨3, none, none, .store 2 (.t 4) (.t 12)⟩,
    ⟨4, some 5, none, .mv (.c (.bool true))⟩] [4, 5])
  .ret)
  (.seq (.reg [⟨0, some 14, none, .bin .eql (.t 7) (.c (.int .i64 5))⟩, xm 1 13 14] [1, 4, 7, 13])
  (.cond (.t 13)
  (.seq (.reg [xm 0 15 1,
    ⟨1, some 16, none, .idx 2 (.t 15) (.c (.int .i64 0))⟩, xf 2 17 1 16, xl 3 18 17, xm 4 19 1,
    ⟨5, some 20, none, .idx 2 (.t 19) (.c (.int .i64 1))⟩, xf 6 21 1 20, xl 7 22 21,
    ⟨8, some 23, none, .bin .add (.t 18) (.t 22)⟩,
    ⟨9, some 24, none, .bin .rem (.t 23) (.c (.int .i64 1000))⟩,
    ⟨10, some 25, none, .call (.alone false true) 128 [.t 24]⟩,
    ⟨11, none, none, .store 2 (.t 4) (.t 25)⟩,
    ⟨12, some 5, none, .mv (.c (.bool true))⟩] [4, 5])
  .ret)
  (.seq (.reg [⟨0, some 27, none, .bin .eql (.t 7) (.c (.int .i64 6))⟩, xm 1 26 27] [1, 4, 26])
  (.cond (.t 26)
  (.seq (.reg [xm 0 28 1,
    ⟨1, some 29, none, .idx 2 (.t 28) (.c (.int .i64 0))⟩, xL 2 30 2 29, xm 3 31 1,
    ⟨4, some 32, none, .idx 2 (.t 31) (.c (.int .i64 1))⟩, xL 5 33 2 32,
    ⟨6, some 34, none, .eqk (.st [true, true]) false (.t 30) (.t 33)⟩,
    ⟨7, some 35, none, .call (.alone false true) 139 [.t 34]⟩,
    ⟨8, none, none, .store 2 (.t 4) (.t 35)⟩,
    ⟨9, some 5, none, .mv (.c (.bool true))⟩] [4, 5])
  .ret)
  .skip))))))))
  (.seq (.reg [⟨0, some 36, none, .build [.int .i64 0, .int .i64 0] []⟩,
    ⟨1, none, none, .store 2 (.t 4) (.t 36)⟩,
    ⟨2, some 5, none, .mv (.c (.bool false))⟩] [4, 5])
  .ret)))⟩
/-- spec.l11Num -/
def c_128 : AFn := ⟨1, 5, [2], [.c 2 (some 2)],
  (.seq (.reg [⟨0, some 2, none, .allocP [.int .i64 0, .int .i64 0]⟩] [0, 2])
  (.seq (.reg [xm 0 3 0,
    ⟨1, some 4, none, .build [.int .i64 0, .int .i64 0] [(0, 1, .c (.int .i64 1)), (1, 1, .t 3)]⟩,
    ⟨2, none, none, .store 2 (.t 2) (.t 4)⟩] [2])
  .ret))⟩
/-- (*spec.l11Heap).call -/
def c_129 : AFn := ⟨3, 60, [], [],
  (.seq (.seq (.reg [xm 0 6 0, xn 1 7 6, xf 2 8 1 7, xf 3 9 2 8, xl 4 10 9,
    ⟨5, some 11, none, .bin .geq (.t 10) (.c (.int .i64 30))⟩] [0, 1, 2, 11])
  (.cond (.t 11)
  (.seq (.reg [xm 0 12 0, xn 1 13 12, xf 2 14 1 13, xf 3 15 4 14,
    ⟨4, none, none, .store 1 (.t 15) (.c (.int .i64 3))⟩] [])
  .ret)
  .skip))
  (.seq (.reg [xm 0 16 0, xm 1 17 0, xn 2 18 17, xf 3 19 1 18, xf 4 20 0 19, xl 5 21 20, xm 6 22 0, xn 7 23 22, xf 8 24 0 23, xL 9 25 1 24, xm 10 26 1, xm 11 27 2, xm 12 28 0, xn 13 29 28, xf 14 30 1 29, xf 15 31 1 30, xl 16 32 31,
    ⟨17, some 33, none, .call (.alone false false) 99 [.t 25, .t 26, .t 27, .t 32]⟩,
    ⟨5, none, none, .again 21 (.load none (.t 20))⟩,
    ⟨18, some 34, none, .litI 6 [.t 33]⟩,
    ⟨19, some 35, none, .app 6 80 (.t 21) (.t 34)⟩, xn 20 36 16, xf 21 37 1 36, xf 22 38 0 37,
    ⟨23, none, none, .store 1 (.t 38) (.t 35)⟩] [0])
  (.seq (.reg [xm 0 39 0, xm 1 40 0, xn 2 41 40, xf 3 42 1 41, xf 4 43 2 42, xl 5 44 43,
    ⟨6, some 45, none, .bin .add (.t 44) (.c (.int .i64 1))⟩, xn 7 46 39, xf 8 47 1 46, xf 9 48 2 47,
    ⟨10, none, none, .store 1 (.t 48) (.t 45)⟩] [0])
  (.reg [xm 0 49 0, xm 1 50 0, xn 2 51 50, xf 3 52 1 51, xf 4 53 0 52, xl 5 54 53,
    ⟨6, some 55, none, .len (.t 54)⟩,
    ⟨7, some 56, none, .bin .sub (.t 55) (.c (.int .i64 1))⟩, xn 8 57 49, xf 9 58 1 57, xf 10 59 1 58,
    ⟨11, none, none, .store 1 (.t 59) (.t 56)⟩] []))))⟩
/-- (*spec.l11Heap).ret -/
def c_130 : AFn := ⟨2, 43, [3], [],
  (.seq (.reg [⟨0, some 3, none, .boxP (.t 1)⟩] [0, 3])
  (.seq (.reg [xm 0 5 0,
    ⟨1, some 6, none, .call .whole 116 [.t 5]⟩, xn 2 7 6, xf 3 8 4 7, xl 4 9 8, xm 5 4 9] [0, 3, 4])
  (.seq (.reg [xm 0 10 0, xm 1 11 0, xn 2 12 11, xf 3 13 1 12, xf 4 14 1 13, xl 5 15 14,
    ⟨6, some 16, none, .call .whole 140 [.t 10, .t 15]⟩] [0, 3, 4])
  (.seq (.reg [xm 0 17 0, xm 1 18 4, xn 2 19 17, xf 3 20 1 19, xf 4 21 1 20,
    ⟨5, none, none, .store 1 (.t 21) (.t 18)⟩] [0, 3, 4])
  (.seq (.seq (.reg [xm 0 22 4,
    ⟨1, some 23, none, .bin .lss (.t 22) (.c (.int .i64 0))⟩] [0, 3, 23])
  (.cond (.t 23)
  (.seq (.reg [xm 0 24 0, xL 1 25 2 3,
    ⟨2, some 26, none, .call .whole 133 [.t 24, .t 25]⟩] [0])
  (.seq (.reg [xm 0 27 0, xn 1 28 27, xf 2 29 1 28, xf 3 30 4 29,
    ⟨4, none, none, .store 1 (.t 30) (.c (.int .i64 1))⟩] [])
  .ret))
  .skip))
  (.reg [xm 0 31 0, xL 7 38 2 3,
    ⟨1, some 32, none, .call .whole 116 [.t 31]⟩,
    ⟨7, none, none, .again 38 (.load (some 2) (.t 3))⟩, xm 2 33 0,
    ⟨3, some 34, none, .call .whole 116 [.t 33]⟩,
    ⟨7, none, none, .again 38 (.load (some 2) (.t 3))⟩, xn 4 35 34, xf 5 36 3 35, xl 6 37 36,
    ⟨8, some 39, none, .litI 2 [.t 38]⟩,
    ⟨9, some 40, none, .app 2 16 (.t 37) (.t 39)⟩, xn 10 41 32, xf 11 42 3 41,
    ⟨12, none, none, .store 1 (.t 42) (.t 40)⟩] []))))))⟩
/-- (*spec.l11Heap).look -/
def c_131 : AFn := ⟨3, 51, [4, 6, 7], [.c 6 (some 2)],
  (.seq (.reg [⟨0, some 4, none, .boxP (.t 1)⟩,
    ⟨1, some 6, none, .allocP [.int .i64 0, .int .i64 0]⟩] [0, 2, 4, 6])
  (.seq (.reg [xm 0 8 0, xn 1 9 8, xf 2 10 1 9, xf 3 11 0 10, xl 4 12 11, xm 5 13 2, xi 6 14 6 12 13, xL 7 15 6 14,
    ⟨8, some 7, none, .allocP [.int .i64 0, .int .i64 0, .nils, .nils, .int .i64 0, .bool false]⟩,
    ⟨9, none, none, .store 6 (.t 7) (.t 15)⟩] [4, 6, 7])
  (.seq (.seq (.reg [xf 0 16 0 4, xl 1 17 16] [4, 6, 7, 17])
  (.block 0
  (.seq (.reg [⟨0, some 19, none, .bin .eql (.t 17) (.c (.int .i64 12))⟩, xm 1 18 19] [4, 6, 7, 17, 18])
  (.cond (.t 18)
  (.seq (.reg [xf 0 20 4 7, xl 1 21 20,
    ⟨2, some 22, none, .bin .geq (.t 21) (.c (.int .i64 0))⟩] [6, 7, 22])
  (.cond (.t 22)
  (.seq (.reg [xf 0 23 4 7, xl 1 24 23,
    ⟨2, some 25, none, .build [.int .i64 0, .int .i64 0] [(0, 1, .c (.int .i64 2)), (1, 1, .t 24)]⟩,
    ⟨3, none, none, .store 2 (.t 6) (.t 25)⟩] [6])
  .ret)
  .skip))
  (.seq (.reg [⟨0, some 27, none, .bin .eql (.t 17) (.c (.int .i64 13))⟩, xm 1 26 27] [4, 6, 7, 17, 26])
  (.cond (.t 26)
  (.seq (.reg [xf 0 28 1 4, xl 1 29 28, xf 2 30 2 7, xl 3 31 30,
    ⟨4, some 32, none, .len (.t 31)⟩,
    ⟨5, some 33, none, .bin .lss (.t 29) (.t 32)⟩] [4, 6, 7, 33])
  (.cond (.t 33)
  (.seq (.reg [xf 0 34 2 7, xl 1 35 34, xf 2 36 1 4, xl 3 37 36, xi 4 38 2 35 37, xL 5 39 2 38,
    ⟨6, none, none, .store 2 (.t 6) (.t 39)⟩] [6])
  .ret)
  .skip))
  (.seq (.reg [⟨0, some 41, none, .bin .eql (.t 17) (.c (.int .i64 17))⟩, xm 1 40 41] [6, 7, 17, 40])
  (.cond (.t 40)
  (.seq (.reg [xf 0 42 5 7, xl 1 43 42,
    ⟨2, some 44, none, .call (.alone false true) 139 [.t 43]⟩,
    ⟨3, none, none, .store 2 (.t 6) (.t 44)⟩] [6])
  .ret)
  (.seq (.reg [⟨0, some 46, none, .bin .eql (.t 17) (.c (.int .i64 18))⟩, xm 1 45 46] [6, 7, 45])
  (.cond (.t 45)
  (.seq (.reg [xf 0 47 1 7, xl 1 48 47,
    ⟨2, some 49, none, .call (.alone false true) 128 [.t 48]⟩,
    ⟨3, none, none, .store 2 (.t 6) (.t 49)⟩] [6])
  .ret)
  .skip))))))))))
  (.seq (.reg [⟨0, some 50, none, .build [.int .i64 0, .int .i64 0] []⟩,
    ⟨1, none, none, .store 2 (.t 6) (.t 50)⟩] [6])
  .ret))))⟩
def b_132_0 : AC := (.seq (.seq (.reg [xm 0 20 0, xn 1 21 20, xf 2 22 1 21, xf 3 23 1 22, xl 4 24 23, xm 5 25 1,
    ⟨6, some 26, none, .bin .neq (.t 24) (.t 25)⟩] [0, 1, 5, 26])
  (.cond (.t 26)
  .skip
  (.exit 0)))
  (.block 1
  (.seq (.reg [xm 0 27 0, xn 1 28 27, xf 2 29 1 28, xf 3 30 1 29, xl 4 31 30, xm 5 6 31] [0, 1, 5, 6])
  (.seq (.reg [xm 0 32 0, xm 1 33 0,
    ⟨2, some 34, none, .call .whole 116 [.t 33]⟩, xn 3 35 34, xf 4 36 4 35, xl 5 37 36, xn 6 38 32, xf 7 39 1 38, xf 8 40 1 39,
    ⟨9, none, none, .store 1 (.t 40) (.t 37)⟩] [0, 1, 5, 6])
  (.reg [xm 0 41 0, xm 1 42 6,
    ⟨2, some 43, none, .call .whole 140 [.t 41, .t 42]⟩] [0, 1, 5])))))
def l_132_0 : AC := b_132_0
theorem u_132_0 {A : Nat → Option AFn} {mt : Nat → Nat → Option Nat} {fr : Fr} {G : AG} {S : List KF} : evS A mt l_132_0 fr G S = evS A mt b_132_0 fr G S := rfl
/-- (*spec.l11Heap).back -/
def c_132 : AFn := ⟨3, 56, [5], [],
  (.seq (.reg [⟨0, some 5, none, .boxP (.t 2)⟩] [0, 1, 5])
  (.seq (.seq (.reg [xm 0 7 0, xn 1 8 7, xf 2 9 1 8, xf 3 10 0 9, xl 4 11 10, xm 5 12 1, xi 6 13 6 11 12, xf 7 14 5 13, xl 8 15 14] [0, 1, 5, 15])
  (.cond (.t 15)
  (.seq (.reg [xm 0 16 0, xn 1 17 16, xf 2 18 1 17, xf 3 19 4 18,
    ⟨4, none, none, .store 1 (.t 19) (.c (.int .i64 2))⟩] [])
  .ret)
  .skip))
  (.seq (.block 0
  (.loop l_132_0))
  (.reg [xm 0 44 0, xL 7 51 2 5,
    ⟨1, some 45, none, .call .whole 116 [.t 44]⟩,
    ⟨7, none, none, .again 51 (.load (some 2) (.t 5))⟩, xm 2 46 0,
    ⟨3, some 47, none, .call .whole 116 [.t 46]⟩,
    ⟨7, none, none, .again 51 (.load (some 2) (.t 5))⟩, xn 4 48 47, xf 5 49 3 48, xl 6 50 49,
    ⟨8, some 52, none, .litI 2 [.t 51]⟩,
    ⟨9, some 53, none, .app 2 16 (.t 50) (.t 52)⟩, xn 10 54 45, xf 11 55 3 54,
    ⟨12, none, none, .store 1 (.t 55) (.t 53)⟩] []))))⟩
/-- (*spec.l11Heap).say -/
def c_133 : AFn := ⟨2, 30, [3], [],
  (.seq (.reg [⟨0, some 3, none, .boxP (.t 1)⟩] [0, 3])
  (.seq (.seq (.reg [xf 0 4 0 3, xl 1 5 4,
    ⟨2, some 6, none, .bin .eql (.t 5) (.c (.int .i64 2))⟩] [0, 3, 6])
  (.cond (.t 6)
  (.reg [xm 0 7 0, xn 1 8 7, xf 2 9 1 8, xf 3 10 0 9, xl 4 11 10, xf 5 12 1 3, xl 6 13 12, xi 7 14 6 11 13, xf 8 15 0 14, xl 9 16 15, xf 10 17 1 3,
    ⟨11, none, none, .store 1 (.t 17) (.t 16)⟩] [0, 3])
  .skip))
  (.reg [xm 0 18 0, xm 1 19 0, xn 2 20 19, xf 3 21 1 20, xf 4 22 3 21, xl 5 23 22, xL 6 24 2 3,
    ⟨7, some 25, none, .litI 2 [.t 24]⟩,
    ⟨8, some 26, none, .app 2 16 (.t 23) (.t 25)⟩, xn 9 27 18, xf 10 28 1 27, xf 11 29 3 28,
    ⟨12, none, none, .store 1 (.t 29) (.t 26)⟩] [])))⟩
/-- impl.manners$1 -/
def c_134 : AFn := ⟨1, 4, [], [.t 2],
  (.seq (.reg [⟨0, some 1, none, .boxH (.t 0)⟩,
    ⟨1, some 2, none, .mv (.c (.nilf))⟩] [1])
  (.seq (.reg [⟨0, some 3, none, .mkf 135 [.t 1]⟩, xm 1 2 3] [2])
  .ret))⟩
/-- impl.manners$1$1 -/
def c_135 : AFn := ⟨3, 7, [3, 4], [.t 5],
  (.seq (.reg [⟨0, some 3, none, .boxP (.t 0)⟩,
    ⟨1, some 4, none, .boxP (.t 1)⟩,
    ⟨2, some 5, none, .mv (.c (.int .i64 0))⟩] [2])
  (.seq (.reg [xl 0 6 2, xm 1 5 6] [5])
  .ret))⟩
/-- impl.manners$2 -/
def c_136 : AFn := ⟨2, 7, [2, 3], [.t 4],
  (.seq (.reg [⟨0, some 2, none, .boxP (.t 0)⟩,
    ⟨1, some 3, none, .boxP (.t 1)⟩,
    ⟨2, some 4, none, .mv (.c (.int .i64 0))⟩] [3])
  (.seq (.reg [xf 0 5 1 3, xl 1 6 5, xm 2 4 6] [4])
  .ret))⟩
/-- impl.manners$3 -/
def c_137 : AFn := ⟨2, 8, [2, 3], [.t 4],
  (.seq (.reg [⟨0, some 2, none, .boxP (.t 0)⟩,
    ⟨1, some 3, none, .boxP (.t 1)⟩,
    ⟨2, some 4, none, .mv (.c (.int .i64 0))⟩] [3])
  (.seq (.reg [xf 0 5 2 3, xl 1 6 5,
    ⟨2, some 7, none, .len (.t 6)⟩, xm 3 4 7] [4])
  .ret))⟩
/-- impl.manners$4 -/
def c_138 : AFn := ⟨2, 8, [2, 3], [.t 4],
  (.seq (.reg [⟨0, some 2, none, .boxP (.t 0)⟩,
    ⟨1, some 3, none, .boxP (.t 1)⟩,
    ⟨2, some 4, none, .mv (.c (.int .i64 0))⟩] [2])
  (.seq (.reg [xf 0 5 0 2, xl 1 6 5,
    ⟨2, some 7, none, .len (.t 6)⟩, xm 3 4 7] [4])
  .ret))⟩
/-- spec.l11Bit -/
def c_139 : AFn := ⟨1, 6, [2], [.c 2 (some 2)],
  (.seq (.reg [⟨0, some 2, none, .allocP [.int .i64 0, .int .i64 0]⟩] [0, 2])
  (.seq (.seq (.reg [xm 0 3 0] [2, 3])
  (.cond (.t 3)
  (.seq (.reg [⟨0, some 4, none, .call (.alone false true) 128 [.c (.int .i64 1)]⟩,
    ⟨1, none, none, .store 2 (.t 2) (.t 4)⟩] [2])
  .ret)
  .skip))
  (.seq (.reg [⟨0, some 5, none, .call (.alone false true) 128 [.c (.int .i64 0)]⟩,
    ⟨1, none, none, .store 2 (.t 2) (.t 5)⟩] [2])
  .ret)))⟩
/-- (*spec.l11Heap).die -/
def c_140 : AFn := ⟨2, 22, [], [],
  (.seq (.reg [xm 0 5 0, xn 1 6 5, xf 2 7 1 6, xf 3 8 0 7, xl 4 9 8, xm 5 10 1, xi 6 11 6 9 10, xm 7 4 11] [4])
  (.seq (.reg [xm 0 12 4, xn 1 13 12, xf 2 14 5 13,
    ⟨3, none, none, .store 1 (.t 14) (.c (.bool true))⟩] [4])
  (.seq (.reg [xm 0 15 4,
    ⟨1, some 16, none, .litO 2 []⟩, xn 2 17 15, xf 3 18 3 17,
    ⟨4, none, none, .store 1 (.t 18) (.t 16)⟩] [4])
  (.reg [xm 0 19 4, xn 1 20 19, xf 2 21 4 20,
    ⟨3, none, none, .store 1 (.t 21) (.c (.int .i64 (-1)))⟩] []))))⟩
def AP : Nat → Option AFn := fun n => match n with
  | 3 => some c_3
  | 13 => some c_13
  | 14 => some c_14
  | 21 => some c_21
  | 23 => some c_23
  | 24 => some c_24
  | 25 => some c_25
  | 26 => some c_26
  | 27 => some c_27
  | 35 => some c_35
  | 40 => some c_40
  | 44 => some c_44
  | 45 => some c_45
  | 46 => some c_46
  | 47 => some c_47
  | 48 => some c_48
  | 49 => some c_49
  | 50 => some c_50
  | 51 => some c_51
  | 52 => some c_52
  | 53 => some c_53
  | 54 => some c_54
  | 55 => some c_55
  | 56 => some c_56
  | 57 => some c_57
  | 58 => some c_58
  | 59 => some c_59
  | 65 => some c_65
  | 66 => some c_66
  | 67 => some c_67
  | 68 => some c_68
  | 73 => some c_73
  | 74 => some c_74
  | 75 => some c_75
  | 76 => some c_76
  | 77 => some c_77
  | 78 => some c_78
  | 79 => some c_79
  | 80 => some c_80
  | 81 => some c_81
  | 82 => some c_82
  | 83 => some c_83
  | 84 => some c_84
  | 85 => some c_85
  | 88 => some c_88
  | 89 => some c_89
  | 90 => some c_90
  | 91 => some c_91
  | 92 => some c_92
  | 93 => some c_93
  | 94 => some c_94
  | 95 => some c_95
  | 96 => some c_96
  | 98 => some c_98
  | 99 => some c_99
  | 100 => some c_100
  | 101 => some c_101
  | 102 => some c_102
  | 103 => some c_103
  | 104 => some c_104
  | 105 => some c_105
  | 106 => some c_106
  | 108 => some c_108
  | 109 => some c_109
  | 110 => some c_110
  | 111 => some c_111
  | 112 => some c_112
  | 113 => some c_113
  | 114 => some c_114
  | 115 => some c_115
  | 116 => some c_116
  | 117 => some c_117
  | 118 => some c_118
  | 119 => some c_119
  | 120 => some c_120
  | 121 => some c_121
  | 122 => some c_122
  | 123 => some c_123
  | 124 => some c_124
  | 125 => some c_125
  | 126 => some c_126
  | 127 => some c_127
  | 128 => some c_128
  | 129 => some c_129
  | 130 => some c_130
  | 131 => some c_131
  | 132 => some c_132
  | 133 => some c_133
  | 134 => some c_134
  | 135 => some c_135
  | 136 => some c_136
  | 137 => some c_137
  | 138 => some c_138
  | 139 => some c_139
  | 140 => some c_140
  | _ => none
theorem AP_3 : AP 3 = some c_3 := rfl
theorem AP_13 : AP 13 = some c_13 := rfl
theorem AP_14 : AP 14 = some c_14 := rfl
theorem AP_21 : AP 21 = some c_21 := rfl
theorem AP_23 : AP 23 = some c_23 := rfl
theorem AP_24 : AP 24 = some c_24 := rfl
theorem AP_25 : AP 25 = some c_25 := rfl
theorem AP_26 : AP 26 = some c_26 := rfl
theorem AP_27 : AP 27 = some c_27 := rfl
theorem AP_35 : AP 35 = some c_35 := rfl
theorem AP_40 : AP 40 = some c_40 := rfl
theorem AP_44 : AP 44 = some c_44 := rfl
theorem AP_45 : AP 45 = some c_45 := rfl
theorem AP_46 : AP 46 = some c_46 := rfl
theorem AP_47 : AP 47 = some c_47 := rfl
theorem AP_48 : AP 48 = some c_48 := rfl
theorem AP_49 : AP 49 = some c_49 := rfl
theorem AP_50 : AP 50 = some c_50 := rfl
theorem AP_51 : AP 51 = some c_51 := rfl
theorem AP_52 : AP 52 = some c_52 := rfl
theorem AP_53 : AP 53 = some c_53 := rfl
theorem AP_54 : AP 54 = some c_54 := rfl
theorem AP_55 : AP 55 = some c_55 := rfl
theorem AP_56 : AP 56 = some c_56 := rfl
theorem AP_57 : AP 57 = some c_57 := rfl
theorem AP_58 : AP 58 = some c_58 := rfl
theorem AP_59 : AP 59 = some c_59 := rfl
theorem AP_65 : AP 65 = some c_65 := rfl
theorem AP_66 : AP 66 = some c_66 := rfl
theorem AP_67 : AP 67 = some c_67 := rfl
theorem AP_68 : AP 68 = some c_68 := rfl
theorem AP_73 : AP 73 = some c_73 := rfl
theorem AP_74 : AP 74 = some c_74 := rfl
theorem AP_75 : AP 75 = some c_75 := rfl
theorem AP_76 : AP 76 = some c_76 := rfl
theorem AP_77 : AP 77 = some c_77 := rfl
theorem AP_78 : AP 78 = some c_78 := rfl
theorem AP_79 : AP 79 = some c_79 := rfl
theorem AP_80 : AP 80 = some c_80 := rfl
theorem AP_81 : AP 81 = some c_81 := rfl
theorem AP_82 : AP 82 = some c_82 := rfl
theorem AP_83 : AP 83 = some c_83 := rfl
theorem AP_84 : AP 84 = some c_84 := rfl
theorem AP_85 : AP 85 = some c_85 := rfl
theorem AP_88 : AP 88 = some c_88 := rfl
theorem AP_89 : AP 89 = some c_89 := rfl
theorem AP_90 : AP 90 = some c_90 := rfl
theorem AP_91 : AP 91 = some c_91 := rfl
theorem AP_92 : AP 92 = some c_92 := rfl
theorem AP_93 : AP 93 = some c_93 := rfl
theorem AP_94 : AP 94 = some c_94 := rfl
theorem AP_95 : AP 95 = some c_95 := rfl
theorem AP_96 : AP 96 = some c_96 := rfl
theorem AP_98 : AP 98 = some c_98 := rfl
theorem AP_99 : AP 99 = some c_99 := rfl
theorem AP_100 : AP 100 = some c_100 := rfl
theorem AP_101 : AP 101 = some c_101 := rfl
theorem AP_102 : AP 102 = some c_102 := rfl
theorem AP_103 : AP 103 = some c_103 := rfl
theorem AP_104 : AP 104 = some c_104 := rfl
theorem AP_105 : AP 105 = some c_105 := rfl
theorem AP_106 : AP 106 = some c_106 := rfl
theorem AP_108 : AP 108 = some c_108 := rfl
theorem AP_109 : AP 109 = some c_109 := rfl
theorem AP_110 : AP 110 = some c_110 := rfl
theorem AP_111 : AP 111 = some c_111 := rfl
theorem AP_112 : AP 112 = some c_112 := rfl
theorem AP_113 : AP 113 = some c_113 := rfl
theorem AP_114 : AP 114 = some c_114 := rfl
theorem AP_115 : AP 115 = some c_115 := rfl
theorem AP_116 : AP 116 = some c_116 := rfl
theorem AP_117 : AP 117 = some c_117 := rfl
theorem AP_118 : AP 118 = some c_118 := rfl
theorem AP_119 : AP 119 = some c_119 := rfl
theorem AP_120 : AP 120 = some c_120 := rfl
theorem AP_121 : AP 121 = some c_121 := rfl
theorem AP_122 : AP 122 = some c_122 := rfl
theorem AP_123 : AP 123 = some c_123 := rfl
theorem AP_124 : AP 124 = some c_124 := rfl
theorem AP_125 : AP 125 = some c_125 := rfl
theorem AP_126 : AP 126 = some c_126 := rfl
theorem AP_127 : AP 127 = some c_127 := rfl
theorem AP_128 : AP 128 = some c_128 := rfl
theorem AP_129 : AP 129 = some c_129 := rfl
theorem AP_130 : AP 130 = some c_130 := rfl
theorem AP_131 : AP 131 = some c_131 := rfl
theorem AP_132 : AP 132 = some c_132 := rfl
theorem AP_133 : AP 133 = some c_133 := rfl
theorem AP_134 : AP 134 = some c_134 := rfl
theorem AP_135 : AP 135 = some c_135 := rfl
theorem AP_136 : AP 136 = some c_136 := rfl
theorem AP_137 : AP 137 = some c_137 := rfl
theorem AP_138 : AP 138 = some c_138 := rfl
theorem AP_139 : AP 139 = some c_139 := rfl
theorem AP_140 : AP 140 = some c_140 := rfl
def mtL : List (Nat × Nat × Nat) := []
abbrev MT : Nat → Nat → Option Nat := mtOf mtL
end Go.Ai
