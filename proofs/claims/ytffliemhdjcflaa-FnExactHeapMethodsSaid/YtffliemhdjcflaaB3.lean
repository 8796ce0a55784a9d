/- The lowered program. Written by a program of this claim (mkprog.py). -/
import Derived.Test.YtffliemhdjcflaaB1
namespace Go.Ai
/-- laws.FnExactHeapMethods -/
def c_1 : AFn := ⟨2, 92, [2, 3, 7, 8], [.t 4],
  (.seq (.reg [⟨0, some 2, none, .boxP (.t 0)⟩,
    ⟨1, some 3, none, .boxP (.t 1)⟩,
    ⟨2, some 4, none, .mv (.c (.bool false))⟩] [2, 3])
  (.seq (.reg [⟨0, some 5, none, .mv (.c (.int .i64 1048576))⟩] [2, 3, 5])
  (.seq (.reg [⟨0, some 14, none, .load (some 1) (.t 2)⟩,
    ⟨1, some 15, none, .mv (.t 5)⟩,
    ⟨2, some 16, none, .call (.alone false true) 4 [.t 14, .t 15]⟩,
    ⟨3, some 5, none, .mv (.t 16)⟩] [2, 3, 5])
  (.seq (.seq (.reg [⟨0, some 17, none, .mv (.t 5)⟩,
    ⟨1, some 18, none, .bin .lss (.t 17) (.c (.int .i64 0))⟩] [2, 3, 5, 18])
  (.cond (.t 18)
  (.seq (.reg [⟨0, some 4, none, .mv (.c (.bool true))⟩] [4])
  .ret)
  .skip))
  (.seq (.reg [⟨0, some 19, none, .load (some 5) (.t 3)⟩,
    ⟨1, some 20, none, .mv (.t 5)⟩,
    ⟨2, some 21, none, .call (.alone false true) 5 [.t 19, .t 20]⟩,
    ⟨3, some 5, none, .mv (.t 21)⟩] [2, 3, 5])
  (.seq (.seq (.reg [⟨0, some 22, none, .mv (.t 5)⟩,
    ⟨1, some 23, none, .bin .lss (.t 22) (.c (.int .i64 0))⟩] [2, 3, 23])
  (.cond (.t 23)
  (.seq (.reg [⟨0, some 4, none, .mv (.c (.bool true))⟩] [4])
  .ret)
  .skip))
  (.seq (.reg [⟨0, some 24, none, .load (some 1) (.t 2)⟩,
    ⟨2, some 26, none, .load (some 5) (.t 3)⟩,
    ⟨1, some 25, none, .call (.alone false true) 7 [.t 24]⟩,
    ⟨2, none, none, .again 26 (.load (some 5) (.t 3))⟩,
    ⟨3, some 27, none, .call (.alone false true) 8 [.t 26]⟩,
    ⟨4, some 28, none, .call (.alone false true) 13 [.t 25, .t 27]⟩,
    ⟨5, some 6, none, .mv (.t 28)⟩] [2, 3, 6])
  (.seq (.reg [⟨0, some 29, none, .load (some 1) (.t 2)⟩,
    ⟨1, some 30, none, .call (.alone false false) 7 [.t 29]⟩,
    ⟨2, some 7, none, .allocP [.nils]⟩,
    ⟨3, none, none, .store 1 (.t 7) (.t 30)⟩] [2, 3, 6, 7])
  (.seq (.reg [⟨0, some 31, none, .load (some 5) (.t 3)⟩,
    ⟨1, some 32, none, .call (.alone false false) 8 [.t 31]⟩,
    ⟨2, some 8, none, .allocP [.nils, .int .i64 0, .int .i64 0, .nils, .int .i64 0]⟩,
    ⟨3, none, none, .store 5 (.t 8) (.t 32)⟩] [2, 3, 6, 7, 8])
  (.seq (.reg [⟨0, some 33, none, .load (some 1) (.t 7)⟩,
    ⟨1, some 34, none, .load (some 5) (.t 8)⟩,
    ⟨2, some 35, none, .call (.alone true false) 14 [.t 33, .t 34]⟩,
    ⟨3, some 9, none, .mv (.t 35)⟩] [2, 3, 6, 7, 8, 9])
  (.seq (.seq (.reg [⟨0, some 36, none, .mv (.t 9)⟩,
    ⟨1, some 37, none, .mv (.t 6)⟩,
    ⟨2, some 38, none, .call (.alone true true) 15 [.t 36, .t 37]⟩,
    ⟨3, some 39, none, .nt (.t 38)⟩] [2, 3, 6, 7, 8, 9, 39])
  (.cond (.t 39)
  (.seq (.reg [⟨0, some 4, none, .mv (.c (.bool false))⟩] [4])
  .ret)
  .skip))
  (.seq (.seq (.reg [⟨0, some 40, none, .load (some 1) (.t 7)⟩,
    ⟨1, some 41, none, .load (some 1) (.t 2)⟩,
    ⟨2, some 42, none, .call (.alone false true) 7 [.t 41]⟩,
    ⟨0, none, none, .again 40 (.load (some 1) (.t 7))⟩,
    ⟨3, some 43, none, .call (.alone true true) 11 [.t 40, .t 42]⟩,
    ⟨4, some 44, none, .nt (.t 43)⟩] [2, 3, 6, 7, 8, 9, 44])
  (.cond (.t 44)
  (.seq (.reg [⟨0, some 4, none, .mv (.c (.bool false))⟩] [4])
  .ret)
  .skip))
  (.seq (.seq (.reg [⟨0, some 45, none, .load (some 5) (.t 8)⟩,
    ⟨1, some 46, none, .load (some 5) (.t 3)⟩,
    ⟨2, some 47, none, .call (.alone false true) 8 [.t 46]⟩,
    ⟨0, none, none, .again 45 (.load (some 5) (.t 8))⟩,
    ⟨3, some 48, none, .call (.alone true true) 12 [.t 45, .t 47]⟩,
    ⟨4, some 49, none, .nt (.t 48)⟩] [2, 3, 6, 7, 8, 9, 49])
  (.cond (.t 49)
  (.seq (.reg [⟨0, some 4, none, .mv (.c (.bool false))⟩] [4])
  .ret)
  .skip))
  (.seq (.reg [⟨0, some 10, none, .mv (.c (.int .i64 1))⟩] [2, 3, 6, 7, 8, 9, 10])
  (.seq (.reg [⟨0, some 50, none, .load (some 1) (.t 7)⟩,
    ⟨1, some 51, none, .mv (.t 10)⟩,
    ⟨2, some 52, none, .call .whole 16 [.t 50, .t 51]⟩,
    ⟨3, some 10, none, .mv (.t 52)⟩] [2, 3, 6, 8, 9, 10])
  (.seq (.reg [⟨0, some 53, none, .load (some 5) (.t 8)⟩,
    ⟨1, some 54, none, .mv (.t 10)⟩,
    ⟨2, some 55, none, .call .whole 17 [.t 53, .t 54]⟩,
    ⟨3, some 10, none, .mv (.t 55)⟩] [2, 3, 6, 9, 10])
  (.seq (.seq (.reg [⟨0, some 56, none, .mv (.t 10)⟩,
    ⟨1, some 57, none, .bin .lss (.t 56) (.c (.int .i64 0))⟩,
    ⟨2, some 58, none, .mv (.t 57)⟩,
    ⟨3, some 59, some (58, false), .mv (.t 9)⟩,
    ⟨4, some 60, some (58, false), .mv (.t 6)⟩,
    ⟨5, some 61, some (58, false), .call (.alone true true) 15 [.t 59, .t 60]⟩,
    ⟨6, some 62, some (58, false), .nt (.t 61)⟩,
    ⟨7, some 63, none, .pick (.t 58) (.c (.bool true)) (.t 62)⟩] [2, 3, 6, 9, 63])
  (.cond (.t 63)
  (.seq (.reg [⟨0, some 4, none, .mv (.c (.bool false))⟩] [4])
  .ret)
  .skip))
  (.seq (.reg [⟨0, some 11, none, .mv (.c (.int .i64 1))⟩] [2, 3, 6, 9, 11])
  (.seq (.reg [⟨0, some 64, none, .mv (.t 9)⟩,
    ⟨1, some 65, none, .mv (.t 11)⟩,
    ⟨2, some 66, none, .call .whole 18 [.t 64, .t 65]⟩,
    ⟨3, some 11, none, .mv (.t 66)⟩] [2, 3, 6, 9, 11])
  (.seq (.reg [⟨0, some 12, none, .mv (.c (.int .i64 1))⟩] [2, 3, 6, 9, 11, 12])
  (.seq (.reg [⟨0, some 67, none, .mv (.t 9)⟩,
    ⟨1, some 68, none, .mv (.t 12)⟩,
    ⟨2, some 69, none, .call (.alone true true) 19 [.t 67, .t 68]⟩,
    ⟨3, some 12, none, .mv (.t 69)⟩] [2, 3, 6, 9, 11, 12])
  (.seq (.seq (.reg [⟨0, some 70, none, .mv (.t 12)⟩,
    ⟨1, some 71, none, .bin .lss (.t 70) (.c (.int .i64 0))⟩] [2, 3, 6, 9, 11, 12, 71])
  (.cond (.t 71)
  (.seq (.reg [⟨0, some 4, none, .mv (.c (.bool false))⟩] [4])
  .ret)
  .skip))
  (.seq (.seq (.reg [⟨0, some 72, none, .mv (.t 12)⟩,
    ⟨1, some 73, none, .mv (.t 11)⟩,
    ⟨2, some 74, none, .bin .neq (.t 72) (.t 73)⟩] [2, 3, 6, 9, 11, 74])
  (.cond (.t 74)
  (.seq (.reg [⟨0, some 4, none, .mv (.c (.bool false))⟩] [4])
  .ret)
  .skip))
  (.seq (.reg [⟨0, some 75, none, .load (some 1) (.t 2)⟩,
    ⟨2, some 77, none, .load (some 5) (.t 3)⟩,
    ⟨1, some 76, none, .call (.alone false true) 7 [.t 75]⟩,
    ⟨2, none, none, .again 77 (.load (some 5) (.t 3))⟩,
    ⟨3, some 78, none, .call (.alone false true) 8 [.t 77]⟩,
    ⟨4, some 79, none, .call (.alone false true) 14 [.t 76, .t 78]⟩,
    ⟨5, some 13, none, .mv (.t 79)⟩] [6, 9, 11, 13])
  (.seq (.seq (.reg [⟨0, some 80, none, .mv (.t 13)⟩,
    ⟨1, some 81, none, .mv (.t 6)⟩,
    ⟨2, some 82, none, .call (.alone true true) 15 [.t 80, .t 81]⟩,
    ⟨3, some 83, none, .nt (.t 82)⟩] [9, 11, 83])
  (.cond (.t 83)
  (.seq (.reg [⟨0, some 4, none, .mv (.c (.bool false))⟩] [4])
  .ret)
  .skip))
  (.seq (.reg [⟨0, some 12, none, .mv (.c (.int .i64 1))⟩] [9, 11, 12])
  (.seq (.reg [⟨0, some 84, none, .mv (.t 9)⟩,
    ⟨1, some 85, none, .mv (.t 12)⟩,
    ⟨2, some 86, none, .call (.alone true true) 19 [.t 84, .t 85]⟩,
    ⟨3, some 12, none, .mv (.t 86)⟩] [11, 12])
  (.seq (.seq (.reg [⟨0, some 87, none, .mv (.t 12)⟩,
    ⟨1, some 88, none, .bin .lss (.t 87) (.c (.int .i64 0))⟩] [11, 12, 88])
  (.cond (.t 88)
  (.seq (.reg [⟨0, some 4, none, .mv (.c (.bool false))⟩] [4])
  .ret)
  .skip))
  (.seq (.seq (.reg [⟨0, some 89, none, .mv (.t 12)⟩,
    ⟨1, some 90, none, .mv (.t 11)⟩,
    ⟨2, some 91, none, .bin .neq (.t 89) (.t 90)⟩] [91])
  (.cond (.t 91)
  (.seq (.reg [⟨0, some 4, none, .mv (.c (.bool false))⟩] [4])
  .ret)
  .skip))
  (.seq (.reg [⟨0, some 4, none, .mv (.c (.bool true))⟩] [4])
  .ret))))))))))))))))))))))))))))))⟩
/-- laws.szProg -/
def c_4 : AFn := ⟨2, 12, [2], [.t 4],
  (.seq (.reg [⟨0, some 2, none, .boxP (.t 0)⟩,
    ⟨1, some 4, none, .mv (.c (.int .i64 0))⟩] [1, 2])
  (.seq (.reg [⟨0, some 5, none, .fld 0 (.t 2)⟩,
    ⟨1, some 6, none, .load none (.t 5)⟩,
    ⟨2, some 7, none, .mv (.t 1)⟩,
    ⟨3, some 8, none, .call (.alone false true) 28 [.t 6, .t 7]⟩,
    ⟨4, some 1, none, .mv (.t 8)⟩] [1])
  (.seq (.seq (.reg [⟨0, some 9, none, .mv (.t 1)⟩,
    ⟨1, some 10, none, .bin .lss (.t 9) (.c (.int .i64 0))⟩] [1, 10])
  (.cond (.t 10)
  (.seq (.reg [⟨0, some 4, none, .mv (.c (.int .i64 (-1)))⟩] [4])
  .ret)
  .skip))
  (.seq (.reg [⟨0, some 11, none, .mv (.t 1)⟩,
    ⟨1, some 4, none, .mv (.t 11)⟩] [4])
  .ret))))⟩
/-- laws.szHeap -/
def c_5 : AFn := ⟨2, 18, [2], [.t 4],
  (.seq (.reg [⟨0, some 2, none, .boxP (.t 0)⟩,
    ⟨1, some 4, none, .mv (.c (.int .i64 0))⟩] [1, 2])
  (.seq (.reg [⟨0, some 5, none, .fld 0 (.t 2)⟩,
    ⟨1, some 6, none, .load none (.t 5)⟩,
    ⟨2, some 7, none, .mv (.t 1)⟩,
    ⟨3, some 8, none, .call (.alone false true) 29 [.t 6, .t 7]⟩,
    ⟨4, some 1, none, .mv (.t 8)⟩] [1, 2])
  (.seq (.seq (.reg [⟨0, some 9, none, .mv (.t 1)⟩,
    ⟨1, some 10, none, .bin .lss (.t 9) (.c (.int .i64 0))⟩] [1, 2, 10])
  (.cond (.t 10)
  (.seq (.reg [⟨0, some 4, none, .mv (.c (.int .i64 (-1)))⟩] [4])
  .ret)
  .skip))
  (.seq (.reg [⟨0, some 11, none, .fld 3 (.t 2)⟩,
    ⟨1, some 12, none, .load none (.t 11)⟩,
    ⟨2, some 13, none, .mv (.t 1)⟩,
    ⟨3, some 14, none, .call (.alone false true) 30 [.t 12, .t 13]⟩,
    ⟨4, some 1, none, .mv (.t 14)⟩] [1])
  (.seq (.seq (.reg [⟨0, some 15, none, .mv (.t 1)⟩,
    ⟨1, some 16, none, .bin .lss (.t 15) (.c (.int .i64 0))⟩] [1, 16])
  (.cond (.t 16)
  (.seq (.reg [⟨0, some 4, none, .mv (.c (.int .i64 (-1)))⟩] [4])
  .ret)
  .skip))
  (.seq (.reg [⟨0, some 17, none, .mv (.t 1)⟩,
    ⟨1, some 4, none, .mv (.t 17)⟩] [4])
  .ret))))))⟩
/-- laws.toProg -/
def c_7 : AFn := ⟨1, 9, [1, 2, 3], [.c 2 (some 1)],
  (.seq (.reg [⟨0, some 1, none, .boxP (.t 0)⟩,
    ⟨1, some 2, none, .allocP [.nils]⟩] [1, 2])
  (.seq (.reg [⟨0, some 3, none, .allocP [.nils]⟩] [1, 2, 3])
  (.seq (.reg [⟨0, some 4, none, .fld 0 (.t 1)⟩,
    ⟨1, some 5, none, .load none (.t 4)⟩,
    ⟨2, some 6, none, .call (.alone false false) 32 [.t 5]⟩,
    ⟨3, some 7, none, .fld 0 (.t 3)⟩,
    ⟨4, none, none, .store 1 (.t 7) (.t 6)⟩] [2, 3])
  (.seq (.reg [⟨0, some 8, none, .load (some 1) (.t 3)⟩,
    ⟨1, none, none, .store 1 (.t 2) (.t 8)⟩] [2])
  .ret))))⟩
/-- laws.toHeap -/
def c_8 : AFn := ⟨1, 22, [1, 2, 3], [.c 2 (some 5)],
  (.seq (.reg [⟨0, some 1, none, .boxP (.t 0)⟩,
    ⟨1, some 2, none, .allocP [.nils, .int .i64 0, .int .i64 0, .nils, .int .i64 0]⟩] [1, 2])
  (.seq (.reg [⟨0, some 3, none, .allocP [.nils, .int .i64 0, .int .i64 0, .nils, .int .i64 0]⟩] [1, 2, 3])
  (.seq (.reg [⟨0, some 4, none, .fld 0 (.t 1)⟩,
    ⟨1, some 5, none, .load none (.t 4)⟩,
    ⟨2, some 6, none, .call (.alone false false) 33 [.t 5]⟩,
    ⟨3, some 7, none, .fld 0 (.t 3)⟩,
    ⟨4, none, none, .store 1 (.t 7) (.t 6)⟩] [1, 2, 3])
  (.seq (.reg [⟨0, some 8, none, .fld 1 (.t 1)⟩,
    ⟨1, some 9, none, .load none (.t 8)⟩,
    ⟨2, some 10, none, .fld 1 (.t 3)⟩,
    ⟨3, none, none, .store 1 (.t 10) (.t 9)⟩] [1, 2, 3])
  (.seq (.reg [⟨0, some 11, none, .fld 2 (.t 1)⟩,
    ⟨1, some 12, none, .load none (.t 11)⟩,
    ⟨2, some 13, none, .fld 2 (.t 3)⟩,
    ⟨3, none, none, .store 1 (.t 13) (.t 12)⟩] [1, 2, 3])
  (.seq (.reg [⟨0, some 14, none, .fld 3 (.t 1)⟩,
    ⟨1, some 15, none, .load none (.t 14)⟩,
    ⟨2, some 16, none, .call (.alone false false) 34 [.t 15]⟩,
    ⟨3, some 17, none, .fld 3 (.t 3)⟩,
    ⟨4, none, none, .store 1 (.t 17) (.t 16)⟩] [1, 2, 3])
  (.seq (.reg [⟨0, some 18, none, .fld 4 (.t 1)⟩,
    ⟨1, some 19, none, .load none (.t 18)⟩,
    ⟨2, some 20, none, .fld 4 (.t 3)⟩,
    ⟨3, none, none, .store 1 (.t 20) (.t 19)⟩] [2, 3])
  (.seq (.reg [⟨0, some 21, none, .load (some 5) (.t 3)⟩,
    ⟨1, none, none, .store 5 (.t 2) (.t 21)⟩] [2])
  .ret))))))))⟩
/-- laws.eqOp -/
def c_10 : AFn := ⟨2, 15, [2, 3], [.t 4],
  (.seq (.reg [⟨0, some 2, none, .boxP (.t 0)⟩,
    ⟨1, some 3, none, .boxP (.t 1)⟩,
    ⟨2, some 4, none, .mv (.c (.bool false))⟩] [2, 3])
  (.seq (.seq (.reg [⟨0, some 5, none, .fld 0 (.t 2)⟩,
    ⟨1, some 6, none, .load none (.t 5)⟩,
    ⟨2, some 7, none, .fld 0 (.t 3)⟩,
    ⟨3, some 8, none, .load none (.t 7)⟩,
    ⟨4, some 9, none, .bin .neq (.t 6) (.t 8)⟩] [2, 3, 9])
  (.cond (.t 9)
  (.seq (.reg [⟨0, some 4, none, .mv (.c (.bool false))⟩] [4])
  .ret)
  .skip))
  (.seq (.seq (.reg [⟨0, some 10, none, .fld 1 (.t 2)⟩,
    ⟨1, some 11, none, .load none (.t 10)⟩,
    ⟨2, some 12, none, .fld 1 (.t 3)⟩,
    ⟨3, some 13, none, .load none (.t 12)⟩,
    ⟨4, some 14, none, .bin .neq (.t 11) (.t 13)⟩] [14])
  (.cond (.t 14)
  (.seq (.reg [⟨0, some 4, none, .mv (.c (.bool false))⟩] [4])
  .ret)
  .skip))
  (.seq (.reg [⟨0, some 4, none, .mv (.c (.bool true))⟩] [4])
  .ret))))⟩
/-- laws.eqProg -/
def c_11 : AFn := ⟨2, 11, [2, 3], [.t 4],
  (.seq (.reg [⟨0, some 2, none, .boxP (.t 0)⟩,
    ⟨1, some 3, none, .boxP (.t 1)⟩,
    ⟨2, some 4, none, .mv (.c (.bool false))⟩] [2, 3])
  (.seq (.seq (.reg [⟨0, some 5, none, .fld 0 (.t 2)⟩,
    ⟨1, some 6, none, .load none (.t 5)⟩,
    ⟨2, some 7, none, .fld 0 (.t 3)⟩,
    ⟨3, some 8, none, .load none (.t 7)⟩,
    ⟨4, some 9, none, .call (.alone false true) 37 [.t 6, .t 8]⟩,
    ⟨5, some 10, none, .nt (.t 9)⟩] [10])
  (.cond (.t 10)
  (.seq (.reg [⟨0, some 4, none, .mv (.c (.bool false))⟩] [4])
  .ret)
  .skip))
  (.seq (.reg [⟨0, some 4, none, .mv (.c (.bool true))⟩] [4])
  .ret)))⟩
/-- laws.eqHeap -/
def c_12 : AFn := ⟨2, 32, [2, 3], [.t 4],
  (.seq (.reg [⟨0, some 2, none, .boxP (.t 0)⟩,
    ⟨1, some 3, none, .boxP (.t 1)⟩,
    ⟨2, some 4, none, .mv (.c (.bool false))⟩] [2, 3])
  (.seq (.seq (.reg [⟨0, some 5, none, .fld 0 (.t 2)⟩,
    ⟨1, some 6, none, .load none (.t 5)⟩,
    ⟨2, some 7, none, .fld 0 (.t 3)⟩,
    ⟨3, some 8, none, .load none (.t 7)⟩,
    ⟨4, some 9, none, .call (.alone false true) 38 [.t 6, .t 8]⟩,
    ⟨5, some 10, none, .nt (.t 9)⟩] [2, 3, 10])
  (.cond (.t 10)
  (.seq (.reg [⟨0, some 4, none, .mv (.c (.bool false))⟩] [4])
  .ret)
  .skip))
  (.seq (.seq (.reg [⟨0, some 11, none, .fld 1 (.t 2)⟩,
    ⟨1, some 12, none, .load none (.t 11)⟩,
    ⟨2, some 13, none, .fld 1 (.t 3)⟩,
    ⟨3, some 14, none, .load none (.t 13)⟩,
    ⟨4, some 15, none, .bin .neq (.t 12) (.t 14)⟩] [2, 3, 15])
  (.cond (.t 15)
  (.seq (.reg [⟨0, some 4, none, .mv (.c (.bool false))⟩] [4])
  .ret)
  .skip))
  (.seq (.seq (.reg [⟨0, some 16, none, .fld 2 (.t 2)⟩,
    ⟨1, some 17, none, .load none (.t 16)⟩,
    ⟨2, some 18, none, .fld 2 (.t 3)⟩,
    ⟨3, some 19, none, .load none (.t 18)⟩,
    ⟨4, some 20, none, .bin .neq (.t 17) (.t 19)⟩] [2, 3, 20])
  (.cond (.t 20)
  (.seq (.reg [⟨0, some 4, none, .mv (.c (.bool false))⟩] [4])
  .ret)
  .skip))
  (.seq (.seq (.reg [⟨0, some 21, none, .fld 3 (.t 2)⟩,
    ⟨1, some 22, none, .load none (.t 21)⟩,
    ⟨2, some 23, none, .fld 3 (.t 3)⟩,
    ⟨3, some 24, none, .load none (.t 23)⟩,
    ⟨4, some 25, none, .call (.alone false true) 39 [.t 22, .t 24]⟩,
    ⟨5, some 26, none, .nt (.t 25)⟩] [2, 3, 26])
  (.cond (.t 26)
  (.seq (.reg [⟨0, some 4, none, .mv (.c (.bool false))⟩] [4])
  .ret)
  .skip))
  (.seq (.seq (.reg [⟨0, some 27, none, .fld 4 (.t 2)⟩,
    ⟨1, some 28, none, .load none (.t 27)⟩,
    ⟨2, some 29, none, .fld 4 (.t 3)⟩,
    ⟨3, some 30, none, .load none (.t 29)⟩,
    ⟨4, some 31, none, .bin .neq (.t 28) (.t 30)⟩] [31])
  (.cond (.t 31)
  (.seq (.reg [⟨0, some 4, none, .mv (.c (.bool false))⟩] [4])
  .ret)
  .skip))
  (.seq (.reg [⟨0, some 4, none, .mv (.c (.bool true))⟩] [4])
  .ret)))))))⟩
def b_13_0 : AC := (.seq (.seq (.reg [⟨0, some 16, none, .mv (.t 7)⟩,
    ⟨1, some 17, none, .mv (.t 6)⟩,
    ⟨2, some 18, none, .len (.t 17)⟩,
    ⟨3, some 19, none, .bin .lss (.t 16) (.t 18)⟩] [3, 5, 6, 7, 19])
  (.cond (.t 19)
  .skip
  (.exit 0)))
  (.seq (.block 1
  (.reg [⟨0, some 22, none, .mv (.t 5)⟩,
    ⟨1, some 23, none, .fld 0 (.t 3)⟩,
    ⟨2, some 24, none, .load none (.t 23)⟩,
    ⟨3, some 25, none, .mv (.t 6)⟩,
    ⟨4, some 26, none, .mv (.t 7)⟩,
    ⟨5, some 27, none, .idx 1 (.t 25) (.t 26)⟩,
    ⟨6, some 28, none, .load none (.t 27)⟩,
    ⟨7, some 29, none, .idx 6 (.t 24) (.t 28)⟩,
    ⟨8, some 30, none, .fld 0 (.t 29)⟩,
    ⟨9, some 31, none, .load none (.t 30)⟩,
    ⟨10, some 32, none, .litI 1 [.t 31]⟩,
    ⟨11, some 33, none, .app 1 8 (.t 22) (.t 32)⟩,
    ⟨12, some 5, none, .mv (.t 33)⟩] [3, 5, 6, 7]))
  (.reg [⟨0, some 20, none, .mv (.t 7)⟩,
    ⟨1, some 21, none, .bin .add (.t 20) (.c (.int .i64 1))⟩,
    ⟨2, some 7, none, .mv (.t 21)⟩] [3, 5, 6, 7])))
def l_13_0 : AC := b_13_0
theorem u_13_0 {A : Nat → Option AFn} {mt : Nat → Nat → Option Nat} {fr : Fr} {G : AG} {S : List KF} : evS A mt l_13_0 fr G S = evS A mt b_13_0 fr G S := rfl
/-- spec.HeapMethods -/
def c_13 : AFn := ⟨2, 35, [2, 3], [.t 4],
  (.seq (.reg [⟨0, some 2, none, .boxP (.t 0)⟩,
    ⟨1, some 3, none, .boxP (.t 1)⟩,
    ⟨2, some 4, none, .mv (.c (.nils))⟩] [2, 3])
  (.seq (.reg [⟨0, some 8, none, .litO 1 []⟩,
    ⟨1, some 5, none, .mv (.t 8)⟩] [2, 3, 5])
  (.seq (.seq (.reg [⟨0, some 9, none, .load (some 1) (.t 2)⟩,
    ⟨1, some 10, none, .load (some 5) (.t 3)⟩,
    ⟨2, some 11, none, .call (.alone false true) 25 [.t 9, .t 10]⟩,
    ⟨3, some 12, none, .nt (.t 11)⟩] [3, 5, 12])
  (.cond (.t 12)
  (.seq (.reg [⟨0, some 13, none, .mv (.t 5)⟩,
    ⟨1, some 4, none, .mv (.t 13)⟩] [4])
  .ret)
  .skip))
  (.seq (.reg [⟨0, some 14, none, .load (some 5) (.t 3)⟩,
    ⟨1, some 15, none, .call (.alone false true) 40 [.t 14]⟩,
    ⟨2, some 6, none, .mv (.t 15)⟩] [3, 5, 6])
  (.seq (.seq (.reg [⟨0, some 7, none, .mv (.c (.int .i64 0))⟩] [3, 5, 6, 7])
  (.block 0
  (.loop l_13_0)))
  (.seq (.reg [⟨0, some 34, none, .mv (.t 5)⟩,
    ⟨1, some 4, none, .mv (.t 34)⟩] [4])
  .ret))))))⟩
def b_14_0 : AC := (.seq (.seq (.reg [⟨0, some 13, none, .mv (.t 6)⟩,
    ⟨1, some 14, none, .bin .geq (.t 13) (.c (.int .i64 0))⟩] [3, 5, 6, 14])
  (.cond (.t 14)
  .skip
  (.exit 0)))
  (.seq (.block 1
  (.reg [⟨0, some 21, none, .mv (.t 5)⟩,
    ⟨1, some 22, none, .fld 0 (.t 3)⟩,
    ⟨2, some 23, none, .load none (.t 22)⟩,
    ⟨3, some 24, none, .mv (.t 6)⟩,
    ⟨4, some 25, none, .idx 6 (.t 23) (.t 24)⟩,
    ⟨5, some 26, none, .fld 0 (.t 25)⟩,
    ⟨6, some 27, none, .load none (.t 26)⟩,
    ⟨7, some 28, none, .litI 1 [.t 27]⟩,
    ⟨8, some 29, none, .app 1 8 (.t 21) (.t 28)⟩,
    ⟨9, some 5, none, .mv (.t 29)⟩] [3, 5, 6]))
  (.reg [⟨0, some 15, none, .fld 0 (.t 3)⟩,
    ⟨1, some 16, none, .load none (.t 15)⟩,
    ⟨2, some 17, none, .mv (.t 6)⟩,
    ⟨3, some 18, none, .idx 6 (.t 16) (.t 17)⟩,
    ⟨4, some 19, none, .fld 4 (.t 18)⟩,
    ⟨5, some 20, none, .load none (.t 19)⟩,
    ⟨6, some 6, none, .mv (.t 20)⟩] [3, 5, 6])))
def l_14_0 : AC := b_14_0
theorem u_14_0 {A : Nat → Option AFn} {mt : Nat → Nat → Option Nat} {fr : Fr} {G : AG} {S : List KF} : evS A mt l_14_0 fr G S = evS A mt b_14_0 fr G S := rfl
/-- impl.HeapMethods -/
def c_14 : AFn := ⟨2, 31, [2, 3], [.t 4],
  (.seq (.reg [⟨0, some 2, none, .boxP (.t 0)⟩,
    ⟨1, some 3, none, .boxP (.t 1)⟩,
    ⟨2, some 4, none, .mv (.c (.nils))⟩] [2, 3])
  (.seq (.seq (.reg [⟨0, some 7, none, .load (some 1) (.t 2)⟩,
    ⟨1, some 8, none, .load (some 5) (.t 3)⟩,
    ⟨2, some 9, none, .call (.alone false true) 35 [.t 7, .t 8]⟩,
    ⟨3, some 10, none, .nt (.t 9)⟩] [3, 10])
  (.cond (.t 10)
  (.seq (.reg [⟨0, some 4, none, .mv (.c (.nils))⟩] [4])
  .ret)
  .skip))
  (.seq (.reg [⟨0, some 5, none, .mv (.c (.nils))⟩] [3, 5])
  (.seq (.seq (.reg [⟨0, some 11, none, .fld 1 (.t 3)⟩,
    ⟨1, some 12, none, .load none (.t 11)⟩,
    ⟨2, some 6, none, .mv (.t 12)⟩] [3, 5, 6])
  (.block 0
  (.loop l_14_0)))
  (.seq (.reg [⟨0, some 30, none, .mv (.t 5)⟩,
    ⟨1, some 4, none, .mv (.t 30)⟩] [4])
  .ret)))))⟩
def b_15_0 : AC := (.seq (.seq (.reg [⟨0, some 11, none, .mv (.t 5)⟩,
    ⟨1, some 12, none, .mv (.t 0)⟩,
    ⟨2, some 13, none, .len (.t 12)⟩,
    ⟨3, some 14, none, .bin .lss (.t 11) (.t 13)⟩] [0, 1, 5, 14])
  (.cond (.t 14)
  .skip
  (.exit 0)))
  (.seq (.block 1
  (.seq (.reg [⟨0, some 17, none, .mv (.t 0)⟩,
    ⟨1, some 18, none, .mv (.t 5)⟩,
    ⟨2, some 19, none, .idx 1 (.t 17) (.t 18)⟩,
    ⟨3, some 20, none, .load none (.t 19)⟩,
    ⟨4, some 21, none, .mv (.t 1)⟩,
    ⟨5, some 22, none, .mv (.t 5)⟩,
    ⟨6, some 23, none, .idx 1 (.t 21) (.t 22)⟩,
    ⟨7, some 24, none, .load none (.t 23)⟩,
    ⟨8, some 25, none, .bin .neq (.t 20) (.t 24)⟩] [0, 1, 5, 25])
  (.cond (.t 25)
  (.seq (.reg [⟨0, some 4, none, .mv (.c (.bool false))⟩] [4])
  .ret)
  .skip)))
  (.reg [⟨0, some 15, none, .mv (.t 5)⟩,
    ⟨1, some 16, none, .bin .add (.t 15) (.c (.int .i64 1))⟩,
    ⟨2, some 5, none, .mv (.t 16)⟩] [0, 1, 5])))
def l_15_0 : AC := b_15_0
theorem u_15_0 {A : Nat → Option AFn} {mt : Nat → Nat → Option Nat} {fr : Fr} {G : AG} {S : List KF} : evS A mt l_15_0 fr G S = evS A mt b_15_0 fr G S := rfl
/-- laws.eqIntS -/
def c_15 : AFn := ⟨2, 26, [], [.t 4],
  (.seq (.reg [⟨0, some 4, none, .mv (.c (.bool false))⟩] [0, 1])
  (.seq (.seq (.reg [⟨0, some 6, none, .mv (.t 0)⟩,
    ⟨1, some 7, none, .len (.t 6)⟩,
    ⟨2, some 8, none, .mv (.t 1)⟩,
    ⟨3, some 9, none, .len (.t 8)⟩,
    ⟨4, some 10, none, .bin .neq (.t 7) (.t 9)⟩] [0, 1, 10])
  (.cond (.t 10)
  (.seq (.reg [⟨0, some 4, none, .mv (.c (.bool false))⟩] [4])
  .ret)
  .skip))
  (.seq (.seq (.reg [⟨0, some 5, none, .mv (.c (.int .i64 0))⟩] [0, 1, 5])
  (.block 0
  (.loop l_15_0)))
  (.seq (.reg [⟨0, some 4, none, .mv (.c (.bool true))⟩] [4])
  .ret))))⟩
/-- laws.markProg -/
def c_16 : AFn := ⟨2, 10, [2], [.t 4],
  (.seq (.reg [⟨0, some 2, none, .boxP (.t 0)⟩,
    ⟨1, some 4, none, .mv (.c (.int .i64 0))⟩] [1, 2])
  (.seq (.reg [⟨0, some 5, none, .fld 0 (.t 2)⟩,
    ⟨1, some 6, none, .load none (.t 5)⟩,
    ⟨2, some 7, none, .mv (.t 1)⟩,
    ⟨3, some 8, none, .call .whole 41 [.t 6, .t 7]⟩,
    ⟨4, some 1, none, .mv (.t 8)⟩] [1])
  (.seq (.reg [⟨0, some 9, none, .mv (.t 1)⟩,
    ⟨1, some 4, none, .mv (.t 9)⟩] [4])
  .ret)))⟩
/-- laws.markHeap -/
def c_17 : AFn := ⟨2, 14, [2], [.t 4],
  (.seq (.reg [⟨0, some 2, none, .boxP (.t 0)⟩,
    ⟨1, some 4, none, .mv (.c (.int .i64 0))⟩] [1, 2])
  (.seq (.reg [⟨0, some 5, none, .fld 0 (.t 2)⟩,
    ⟨1, some 6, none, .load none (.t 5)⟩,
    ⟨2, some 7, none, .mv (.t 1)⟩,
    ⟨3, some 8, none, .call .whole 42 [.t 6, .t 7]⟩,
    ⟨4, some 1, none, .mv (.t 8)⟩] [1, 2])
  (.seq (.reg [⟨0, some 9, none, .fld 3 (.t 2)⟩,
    ⟨1, some 10, none, .load none (.t 9)⟩,
    ⟨2, some 11, none, .mv (.t 1)⟩,
    ⟨3, some 12, none, .call .whole 43 [.t 10, .t 11]⟩,
    ⟨4, some 1, none, .mv (.t 12)⟩] [1])
  (.seq (.reg [⟨0, some 13, none, .mv (.t 1)⟩,
    ⟨1, some 4, none, .mv (.t 13)⟩] [4])
  .ret))))⟩
def b_18_0 : AC := (.seq (.seq (.reg [⟨0, some 6, none, .mv (.t 5)⟩,
    ⟨1, some 7, none, .mv (.t 0)⟩,
    ⟨2, some 8, none, .len (.t 7)⟩,
    ⟨3, some 9, none, .bin .lss (.t 6) (.t 8)⟩] [0, 1, 5, 9])
  (.cond (.t 9)
  .skip
  (.exit 0)))
  (.seq (.block 1
  (.seq (.reg [⟨0, some 12, none, .mv (.t 0)⟩,
    ⟨1, some 13, none, .mv (.t 5)⟩,
    ⟨2, some 14, none, .mv (.t 1)⟩,
    ⟨3, some 15, none, .idx 1 (.t 12) (.t 13)⟩,
    ⟨4, none, none, .store 1 (.t 15) (.t 14)⟩] [0, 1, 5])
  (.reg [⟨0, some 16, none, .mv (.t 1)⟩,
    ⟨1, some 17, none, .bin .add (.t 16) (.c (.int .i64 1))⟩,
    ⟨2, some 1, none, .mv (.t 17)⟩] [0, 1, 5])))
  (.reg [⟨0, some 10, none, .mv (.t 5)⟩,
    ⟨1, some 11, none, .bin .add (.t 10) (.c (.int .i64 1))⟩,
    ⟨2, some 5, none, .mv (.t 11)⟩] [0, 1, 5])))
def l_18_0 : AC := b_18_0
theorem u_18_0 {A : Nat → Option AFn} {mt : Nat → Nat → Option Nat} {fr : Fr} {G : AG} {S : List KF} : evS A mt l_18_0 fr G S = evS A mt b_18_0 fr G S := rfl
/-- laws.markIntS -/
def c_18 : AFn := ⟨2, 19, [], [.t 4],
  (.seq (.reg [⟨0, some 4, none, .mv (.c (.int .i64 0))⟩] [0, 1])
  (.seq (.seq (.reg [⟨0, some 5, none, .mv (.c (.int .i64 0))⟩] [0, 1, 5])
  (.block 0
  (.loop l_18_0)))
  (.seq (.reg [⟨0, some 18, none, .mv (.t 1)⟩,
    ⟨1, some 4, none, .mv (.t 18)⟩] [4])
  .ret)))⟩
def b_19_0 : AC := (.seq (.seq (.reg [⟨0, some 6, none, .mv (.t 5)⟩,
    ⟨1, some 7, none, .mv (.t 0)⟩,
    ⟨2, some 8, none, .len (.t 7)⟩,
    ⟨3, some 9, none, .bin .lss (.t 6) (.t 8)⟩] [0, 1, 5, 9])
  (.cond (.t 9)
  .skip
  (.exit 0)))
  (.seq (.block 1
  (.seq (.seq (.reg [⟨0, some 12, none, .mv (.t 0)⟩,
    ⟨1, some 13, none, .mv (.t 5)⟩,
    ⟨2, some 14, none, .idx 1 (.t 12) (.t 13)⟩,
    ⟨3, some 15, none, .load none (.t 14)⟩,
    ⟨4, some 16, none, .mv (.t 1)⟩,
    ⟨5, some 17, none, .bin .neq (.t 15) (.t 16)⟩] [0, 1, 5, 17])
  (.cond (.t 17)
  (.seq (.reg [⟨0, some 4, none, .mv (.c (.int .i64 (-1)))⟩] [4])
  .ret)
  .skip))
  (.reg [⟨0, some 18, none, .mv (.t 1)⟩,
    ⟨1, some 19, none, .bin .add (.t 18) (.c (.int .i64 1))⟩,
    ⟨2, some 1, none, .mv (.t 19)⟩] [0, 1, 5])))
  (.reg [⟨0, some 10, none, .mv (.t 5)⟩,
    ⟨1, some 11, none, .bin .add (.t 10) (.c (.int .i64 1))⟩,
    ⟨2, some 5, none, .mv (.t 11)⟩] [0, 1, 5])))
def l_19_0 : AC := b_19_0
theorem u_19_0 {A : Nat → Option AFn} {mt : Nat → Nat → Option Nat} {fr : Fr} {G : AG} {S : List KF} : evS A mt l_19_0 fr G S = evS A mt b_19_0 fr G S := rfl
/-- laws.heldIntS -/
def c_19 : AFn := ⟨2, 21, [], [.t 4],
  (.seq (.reg [⟨0, some 4, none, .mv (.c (.int .i64 0))⟩] [0, 1])
  (.seq (.seq (.reg [⟨0, some 5, none, .mv (.c (.int .i64 0))⟩] [0, 1, 5])
  (.block 0
  (.loop l_19_0)))
  (.seq (.reg [⟨0, some 20, none, .mv (.t 1)⟩,
    ⟨1, some 4, none, .mv (.t 20)⟩] [4])
  .ret)))⟩
def b_25_0 : AC := (.seq (.seq (.reg [⟨0, some 56, none, .mv (.t 7)⟩,
    ⟨1, some 57, none, .mv (.t 5)⟩,
    ⟨2, some 58, none, .bin .lss (.t 56) (.t 57)⟩] [2, 3, 5, 6, 7, 58])
  (.cond (.t 58)
  .skip
  (.exit 0)))
  (.seq (.block 1
  (.seq (.seq (.reg [⟨0, some 61, none, .load (some 1) (.t 2)⟩,
    ⟨1, some 62, none, .fld 0 (.t 3)⟩,
    ⟨2, some 63, none, .load none (.t 62)⟩,
    ⟨3, some 64, none, .mv (.t 7)⟩,
    ⟨4, some 65, none, .idx 6 (.t 63) (.t 64)⟩,
    ⟨5, some 66, none, .load (some 6) (.t 65)⟩,
    ⟨6, some 67, none, .mv (.t 5)⟩,
    ⟨7, some 68, none, .call (.alone false true) 57 [.t 61, .t 66, .t 67]⟩,
    ⟨8, some 69, none, .nt (.t 68)⟩] [2, 3, 5, 6, 7, 69])
  (.cond (.t 69)
  (.seq (.reg [⟨0, some 4, none, .mv (.c (.bool false))⟩] [4])
  .ret)
  .skip))
  (.seq (.reg [⟨0, some 70, none, .fld 0 (.t 3)⟩,
    ⟨1, some 71, none, .load none (.t 70)⟩,
    ⟨2, some 72, none, .mv (.t 7)⟩,
    ⟨3, some 73, none, .idx 6 (.t 71) (.t 72)⟩,
    ⟨4, some 74, none, .fld 5 (.t 73)⟩,
    ⟨5, some 75, none, .load none (.t 74)⟩,
    ⟨6, some 76, none, .nt (.t 75)⟩] [2, 3, 5, 6, 7, 76])
  (.cond (.t 76)
  (.reg [⟨0, some 77, none, .mv (.t 6)⟩,
    ⟨1, some 78, none, .bin .add (.t 77) (.c (.int .i64 1))⟩,
    ⟨2, some 6, none, .mv (.t 78)⟩] [2, 3, 5, 6, 7])
  .skip))))
  (.reg [⟨0, some 59, none, .mv (.t 7)⟩,
    ⟨1, some 60, none, .bin .add (.t 59) (.c (.int .i64 1))⟩,
    ⟨2, some 7, none, .mv (.t 60)⟩] [2, 3, 5, 6, 7])))
def l_25_0 : AC := b_25_0
theorem u_25_0 {A : Nat → Option AFn} {mt : Nat → Nat → Option Nat} {fr : Fr} {G : AG} {S : List KF} : evS A mt l_25_0 fr G S = evS A mt b_25_0 fr G S := rfl
/-- spec.HeapOk -/
def c_25 : AFn := ⟨2, 103, [2, 3], [.t 4],
  (.seq (.reg [⟨0, some 2, none, .boxP (.t 0)⟩,
    ⟨1, some 3, none, .boxP (.t 1)⟩,
    ⟨2, some 4, none, .mv (.c (.bool false))⟩] [2, 3])
  (.seq (.reg [⟨0, some 8, none, .fld 0 (.t 3)⟩,
    ⟨1, some 9, none, .load none (.t 8)⟩,
    ⟨2, some 10, none, .len (.t 9)⟩,
    ⟨3, some 5, none, .mv (.t 10)⟩] [2, 3, 5])
  (.seq (.seq (.reg [⟨0, some 11, none, .load (some 1) (.t 2)⟩,
    ⟨1, some 12, none, .call (.alone false true) 54 [.t 11]⟩,
    ⟨2, some 13, none, .nt (.t 12)⟩,
    ⟨3, some 14, none, .mv (.t 13)⟩,
    ⟨4, some 15, some (14, false), .fld 1 (.t 3)⟩,
    ⟨5, some 16, some (14, false), .load none (.t 15)⟩,
    ⟨6, some 17, some (14, false), .mv (.t 5)⟩,
    ⟨7, some 18, some (14, false), .bin .sub (.t 17) (.c (.int .i64 1))⟩,
    ⟨8, some 19, some (14, false), .call (.alone false true) 55 [.t 16, .c (.int .i64 (-1)), .t 18]⟩,
    ⟨9, some 20, some (14, false), .nt (.t 19)⟩,
    ⟨10, some 21, none, .pick (.t 14) (.c (.bool true)) (.t 20)⟩,
    ⟨11, some 22, none, .mv (.t 21)⟩,
    ⟨12, some 23, some (22, false), .fld 2 (.t 3)⟩,
    ⟨13, some 24, some (22, false), .load none (.t 23)⟩,
    ⟨14, some 25, some (22, false), .call (.alone false true) 55 [.t 24, .c (.int .i64 1), .c (.int .i64 30)]⟩,
    ⟨15, some 26, some (22, false), .nt (.t 25)⟩,
    ⟨16, some 27, none, .pick (.t 22) (.c (.bool true)) (.t 26)⟩,
    ⟨17, some 28, none, .mv (.t 27)⟩,
    ⟨18, some 29, some (28, false), .mv (.t 5)⟩,
    ⟨19, some 30, some (28, false), .fld 2 (.t 3)⟩,
    ⟨20, some 31, some (28, false), .load none (.t 30)⟩,
    ⟨21, some 32, some (28, false), .bin .gtr (.t 29) (.t 31)⟩,
    ⟨22, some 33, none, .pick (.t 28) (.c (.bool true)) (.t 32)⟩,
    ⟨23, some 34, none, .mv (.t 33)⟩,
    ⟨24, some 35, some (34, false), .fld 4 (.t 3)⟩,
    ⟨25, some 36, some (34, false), .load none (.t 35)⟩,
    ⟨26, some 37, some (34, false), .call (.alone false true) 55 [.t 36, .c (.int .i64 0), .c (.int .i64 3)]⟩,
    ⟨27, some 38, some (34, false), .nt (.t 37)⟩,
    ⟨28, some 39, none, .pick (.t 34) (.c (.bool true)) (.t 38)⟩,
    ⟨29, some 40, none, .mv (.t 39)⟩,
    ⟨30, some 41, some (40, false), .load (some 1) (.t 2)⟩,
    ⟨31, some 42, some (40, false), .fld 3 (.t 3)⟩,
    ⟨32, some 43, some (40, false), .load none (.t 42)⟩,
    ⟨33, some 44, some (40, false), .call (.alone false true) 56 [.t 41, .t 43]⟩,
    ⟨34, some 45, some (40, false), .nt (.t 44)⟩,
    ⟨35, some 46, none, .pick (.t 40) (.c (.bool true)) (.t 45)⟩,
    ⟨36, some 47, none, .mv (.t 46)⟩,
    ⟨37, some 48, some (47, false), .fld 4 (.t 3)⟩,
    ⟨38, some 49, some (47, false), .load none (.t 48)⟩,
    ⟨39, some 50, some (47, false), .bin .eql (.t 49) (.c (.int .i64 1))⟩,
    ⟨40, some 51, some (47, false), .fld 1 (.t 3)⟩,
    ⟨41, some 52, some (47, false), .load none (.t 51)⟩,
    ⟨42, some 53, some (47, false), .bin .lss (.t 52) (.c (.int .i64 0))⟩,
    ⟨43, some 54, some (47, false), .eqk .b true (.t 50) (.t 53)⟩,
    ⟨44, some 55, none, .pick (.t 47) (.c (.bool true)) (.t 54)⟩] [2, 3, 5, 55])
  (.cond (.t 55)
  (.seq (.reg [⟨0, some 4, none, .mv (.c (.bool false))⟩] [4])
  .ret)
  .skip))
  (.seq (.reg [⟨0, some 6, none, .mv (.c (.int .i64 0))⟩] [2, 3, 5, 6])
  (.seq (.seq (.reg [⟨0, some 7, none, .mv (.c (.int .i64 0))⟩] [2, 3, 5, 6, 7])
  (.block 0
  (.loop l_25_0)))
  (.seq (.reg [⟨0, some 79, none, .fld 1 (.t 3)⟩,
    ⟨1, some 80, none, .load none (.t 79)⟩,
    ⟨2, some 81, none, .bin .lss (.t 80) (.c (.int .i64 0))⟩,
    ⟨3, some 82, none, .mv (.t 81)⟩,
    ⟨4, some 83, some (82, false), .fld 0 (.t 3)⟩,
    ⟨5, some 84, some (82, false), .load none (.t 83)⟩,
    ⟨6, some 85, some (82, false), .fld 1 (.t 3)⟩,
    ⟨7, some 86, some (82, false), .load none (.t 85)⟩,
    ⟨8, some 87, some (82, false), .idx 6 (.t 84) (.t 86)⟩,
    ⟨9, some 88, some (82, false), .fld 5 (.t 87)⟩,
    ⟨10, some 89, some (82, false), .load none (.t 88)⟩,
    ⟨11, some 90, some (82, false), .nt (.t 89)⟩,
    ⟨12, some 91, none, .pick (.t 82) (.c (.bool true)) (.t 90)⟩,
    ⟨13, some 92, none, .mv (.t 91)⟩,
    ⟨14, some 93, some (92, true), .load (some 5) (.t 3)⟩,
    ⟨15, some 94, some (92, true), .call (.alone false true) 40 [.t 93]⟩,
    ⟨16, some 95, some (92, true), .len (.t 94)⟩,
    ⟨17, some 96, some (92, true), .mv (.t 6)⟩,
    ⟨18, some 97, some (92, true), .bin .eql (.t 95) (.t 96)⟩,
    ⟨19, some 98, none, .pick (.t 92) (.t 97) (.c (.bool false))⟩,
    ⟨20, some 99, none, .mv (.t 98)⟩,
    ⟨21, some 100, some (99, true), .load (some 5) (.t 3)⟩,
    ⟨22, some 101, some (99, true), .call (.alone false true) 58 [.t 100]⟩,
    ⟨23, some 102, none, .pick (.t 99) (.t 101) (.c (.bool false))⟩,
    ⟨24, some 4, none, .mv (.t 102)⟩] [4])
  .ret))))))⟩
def b_28_0 : AC := (.seq (.seq (.reg [⟨0, some 12, none, .mv (.t 5)⟩,
    ⟨1, some 13, none, .mv (.t 0)⟩,
    ⟨2, some 14, none, .len (.t 13)⟩,
    ⟨3, some 15, none, .bin .lss (.t 12) (.t 14)⟩] [0, 1, 5, 15])
  (.cond (.t 15)
  .skip
  (.exit 0)))
  (.seq (.block 1
  (.seq (.reg [⟨0, some 18, none, .mv (.t 0)⟩,
    ⟨1, some 19, none, .mv (.t 5)⟩,
    ⟨2, some 20, none, .idx 3 (.t 18) (.t 19)⟩,
    ⟨3, some 21, none, .load (some 3) (.t 20)⟩,
    ⟨4, some 22, none, .mv (.t 1)⟩,
    ⟨5, some 23, none, .call (.alone false true) 60 [.t 21, .t 22]⟩,
    ⟨6, some 1, none, .mv (.t 23)⟩] [0, 1, 5])
  (.seq (.reg [⟨0, some 24, none, .mv (.t 1)⟩,
    ⟨1, some 25, none, .bin .lss (.t 24) (.c (.int .i64 0))⟩] [0, 1, 5, 25])
  (.cond (.t 25)
  (.seq (.reg [⟨0, some 4, none, .mv (.c (.int .i64 (-1)))⟩] [4])
  .ret)
  .skip))))
  (.reg [⟨0, some 16, none, .mv (.t 5)⟩,
    ⟨1, some 17, none, .bin .add (.t 16) (.c (.int .i64 1))⟩,
    ⟨2, some 5, none, .mv (.t 17)⟩] [0, 1, 5])))
def l_28_0 : AC := b_28_0
theorem u_28_0 {A : Nat → Option AFn} {mt : Nat → Nat → Option Nat} {fr : Fr} {G : AG} {S : List KF} : evS A mt l_28_0 fr G S = evS A mt b_28_0 fr G S := rfl
/-- laws.szMethodS -/
def c_28 : AFn := ⟨2, 27, [], [.t 4],
  (.seq (.reg [⟨0, some 4, none, .mv (.c (.int .i64 0))⟩] [0, 1])
  (.seq (.reg [⟨0, some 6, none, .mv (.t 1)⟩,
    ⟨1, some 7, none, .mv (.t 0)⟩,
    ⟨2, some 8, none, .len (.t 7)⟩,
    ⟨3, some 9, none, .bin .sub (.t 6) (.t 8)⟩,
    ⟨4, some 1, none, .mv (.t 9)⟩] [0, 1])
  (.seq (.seq (.reg [⟨0, some 10, none, .mv (.t 1)⟩,
    ⟨1, some 11, none, .bin .lss (.t 10) (.c (.int .i64 0))⟩] [0, 1, 11])
  (.cond (.t 11)
  (.seq (.reg [⟨0, some 4, none, .mv (.c (.int .i64 (-1)))⟩] [4])
  .ret)
  .skip))
  (.seq (.seq (.reg [⟨0, some 5, none, .mv (.c (.int .i64 0))⟩] [0, 1, 5])
  (.block 0
  (.loop l_28_0)))
  (.seq (.reg [⟨0, some 26, none, .mv (.t 1)⟩,
    ⟨1, some 4, none, .mv (.t 26)⟩] [4])
  .ret)))))⟩
def b_29_0 : AC := (.seq (.seq (.reg [⟨0, some 12, none, .mv (.t 5)⟩,
    ⟨1, some 13, none, .mv (.t 0)⟩,
    ⟨2, some 14, none, .len (.t 13)⟩,
    ⟨3, some 15, none, .bin .lss (.t 12) (.t 14)⟩] [0, 1, 5, 15])
  (.cond (.t 15)
  .skip
  (.exit 0)))
  (.seq (.block 1
  (.seq (.reg [⟨0, some 18, none, .mv (.t 0)⟩,
    ⟨1, some 19, none, .mv (.t 5)⟩,
    ⟨2, some 20, none, .idx 6 (.t 18) (.t 19)⟩,
    ⟨3, some 21, none, .load (some 6) (.t 20)⟩,
    ⟨4, some 22, none, .mv (.t 1)⟩,
    ⟨5, some 23, none, .call (.alone false true) 61 [.t 21, .t 22]⟩,
    ⟨6, some 1, none, .mv (.t 23)⟩] [0, 1, 5])
  (.seq (.reg [⟨0, some 24, none, .mv (.t 1)⟩,
    ⟨1, some 25, none, .bin .lss (.t 24) (.c (.int .i64 0))⟩] [0, 1, 5, 25])
  (.cond (.t 25)
  (.seq (.reg [⟨0, some 4, none, .mv (.c (.int .i64 (-1)))⟩] [4])
  .ret)
  .skip))))
  (.reg [⟨0, some 16, none, .mv (.t 5)⟩,
    ⟨1, some 17, none, .bin .add (.t 16) (.c (.int .i64 1))⟩,
    ⟨2, some 5, none, .mv (.t 17)⟩] [0, 1, 5])))
def l_29_0 : AC := b_29_0
theorem u_29_0 {A : Nat → Option AFn} {mt : Nat → Nat → Option Nat} {fr : Fr} {G : AG} {S : List KF} : evS A mt l_29_0 fr G S = evS A mt b_29_0 fr G S := rfl
/-- laws.szCallS -/
def c_29 : AFn := ⟨2, 27, [], [.t 4],
  (.seq (.reg [⟨0, some 4, none, .mv (.c (.int .i64 0))⟩] [0, 1])
  (.seq (.reg [⟨0, some 6, none, .mv (.t 1)⟩,
    ⟨1, some 7, none, .mv (.t 0)⟩,
    ⟨2, some 8, none, .len (.t 7)⟩,
    ⟨3, some 9, none, .bin .sub (.t 6) (.t 8)⟩,
    ⟨4, some 1, none, .mv (.t 9)⟩] [0, 1])
  (.seq (.seq (.reg [⟨0, some 10, none, .mv (.t 1)⟩,
    ⟨1, some 11, none, .bin .lss (.t 10) (.c (.int .i64 0))⟩] [0, 1, 11])
  (.cond (.t 11)
  (.seq (.reg [⟨0, some 4, none, .mv (.c (.int .i64 (-1)))⟩] [4])
  .ret)
  .skip))
  (.seq (.seq (.reg [⟨0, some 5, none, .mv (.c (.int .i64 0))⟩] [0, 1, 5])
  (.block 0
  (.loop l_29_0)))
  (.seq (.reg [⟨0, some 26, none, .mv (.t 1)⟩,
    ⟨1, some 4, none, .mv (.t 26)⟩] [4])
  .ret)))))⟩
/-- laws.szValS -/
def c_30 : AFn := ⟨2, 12, [], [.t 4],
  (.seq (.reg [⟨0, some 4, none, .mv (.c (.int .i64 0))⟩] [0, 1])
  (.seq (.reg [⟨0, some 5, none, .mv (.t 1)⟩,
    ⟨1, some 6, none, .mv (.t 0)⟩,
    ⟨2, some 7, none, .len (.t 6)⟩,
    ⟨3, some 8, none, .bin .sub (.t 5) (.t 7)⟩,
    ⟨4, some 1, none, .mv (.t 8)⟩] [1])
  (.seq (.seq (.reg [⟨0, some 9, none, .mv (.t 1)⟩,
    ⟨1, some 10, none, .bin .lss (.t 9) (.c (.int .i64 0))⟩] [1, 10])
  (.cond (.t 10)
  (.seq (.reg [⟨0, some 4, none, .mv (.c (.int .i64 (-1)))⟩] [4])
  .ret)
  .skip))
  (.seq (.reg [⟨0, some 11, none, .mv (.t 1)⟩,
    ⟨1, some 4, none, .mv (.t 11)⟩] [4])
  .ret))))⟩
def b_32_0 : AC := (.seq (.seq (.reg [⟨0, some 8, none, .mv (.t 4)⟩,
    ⟨1, some 9, none, .mv (.t 0)⟩,
    ⟨2, some 10, none, .len (.t 9)⟩,
    ⟨3, some 11, none, .bin .lss (.t 8) (.t 10)⟩] [0, 3, 4, 11])
  (.cond (.t 11)
  .skip
  (.exit 0)))
  (.seq (.block 1
  (.reg [⟨0, some 14, none, .mv (.t 3)⟩,
    ⟨1, some 15, none, .mv (.t 4)⟩,
    ⟨2, some 16, none, .mv (.t 0)⟩,
    ⟨3, some 17, none, .mv (.t 4)⟩,
    ⟨4, some 18, none, .idx 3 (.t 16) (.t 17)⟩,
    ⟨5, some 19, none, .load (some 3) (.t 18)⟩,
    ⟨6, some 20, none, .call (.alone false false) 62 [.t 19]⟩,
    ⟨7, some 21, none, .idx 3 (.t 14) (.t 15)⟩,
    ⟨8, none, none, .store 3 (.t 21) (.t 20)⟩] [0, 3, 4]))
  (.reg [⟨0, some 12, none, .mv (.t 4)⟩,
    ⟨1, some 13, none, .bin .add (.t 12) (.c (.int .i64 1))⟩,
    ⟨2, some 4, none, .mv (.t 13)⟩] [0, 3, 4])))
def l_32_0 : AC := b_32_0
theorem u_32_0 {A : Nat → Option AFn} {mt : Nat → Nat → Option Nat} {fr : Fr} {G : AG} {S : List KF} : evS A mt l_32_0 fr G S = evS A mt b_32_0 fr G S := rfl
/-- laws.toMethodS -/
def c_32 : AFn := ⟨1, 23, [], [.t 2],
  (.seq (.reg [⟨0, some 2, none, .mv (.c (.nils))⟩] [0])
  (.seq (.reg [⟨0, some 5, none, .mv (.t 0)⟩,
    ⟨1, some 6, none, .len (.t 5)⟩,
    ⟨2, some 7, none, .mks [.int .i64 0, .int .i64 0, .nils] 40 (.t 6)⟩,
    ⟨3, some 3, none, .mv (.t 7)⟩] [0, 3])
  (.seq (.seq (.reg [⟨0, some 4, none, .mv (.c (.int .i64 0))⟩] [0, 3, 4])
  (.block 0
  (.loop l_32_0)))
  (.seq (.reg [⟨0, some 22, none, .mv (.t 3)⟩,
    ⟨1, some 2, none, .mv (.t 22)⟩] [2])
  .ret))))⟩
def b_33_0 : AC := (.seq (.seq (.reg [⟨0, some 8, none, .mv (.t 4)⟩,
    ⟨1, some 9, none, .mv (.t 0)⟩,
    ⟨2, some 10, none, .len (.t 9)⟩,
    ⟨3, some 11, none, .bin .lss (.t 8) (.t 10)⟩] [0, 3, 4, 11])
  (.cond (.t 11)
  .skip
  (.exit 0)))
  (.seq (.block 1
  (.reg [⟨0, some 14, none, .mv (.t 3)⟩,
    ⟨1, some 15, none, .mv (.t 4)⟩,
    ⟨2, some 16, none, .mv (.t 0)⟩,
    ⟨3, some 17, none, .mv (.t 4)⟩,
    ⟨4, some 18, none, .idx 6 (.t 16) (.t 17)⟩,
    ⟨5, some 19, none, .load (some 6) (.t 18)⟩,
    ⟨6, some 20, none, .call (.alone false false) 63 [.t 19]⟩,
    ⟨7, some 21, none, .idx 6 (.t 14) (.t 15)⟩,
    ⟨8, none, none, .store 6 (.t 21) (.t 20)⟩] [0, 3, 4]))
  (.reg [⟨0, some 12, none, .mv (.t 4)⟩,
    ⟨1, some 13, none, .bin .add (.t 12) (.c (.int .i64 1))⟩,
    ⟨2, some 4, none, .mv (.t 13)⟩] [0, 3, 4])))
def l_33_0 : AC := b_33_0
theorem u_33_0 {A : Nat → Option AFn} {mt : Nat → Nat → Option Nat} {fr : Fr} {G : AG} {S : List KF} : evS A mt l_33_0 fr G S = evS A mt b_33_0 fr G S := rfl
/-- laws.toCallS -/
def c_33 : AFn := ⟨1, 23, [], [.t 2],
  (.seq (.reg [⟨0, some 2, none, .mv (.c (.nils))⟩] [0])
  (.seq (.reg [⟨0, some 5, none, .mv (.t 0)⟩,
    ⟨1, some 6, none, .len (.t 5)⟩,
    ⟨2, some 7, none, .mks [.int .i64 0, .int .i64 0, .nils, .nils, .int .i64 0, .bool false] 80 (.t 6)⟩,
    ⟨3, some 3, none, .mv (.t 7)⟩] [0, 3])
  (.seq (.seq (.reg [⟨0, some 4, none, .mv (.c (.int .i64 0))⟩] [0, 3, 4])
  (.block 0
  (.loop l_33_0)))
  (.seq (.reg [⟨0, some 22, none, .mv (.t 3)⟩,
    ⟨1, some 2, none, .mv (.t 22)⟩] [2])
  .ret))))⟩
def b_34_0 : AC := (.seq (.seq (.reg [⟨0, some 8, none, .mv (.t 4)⟩,
    ⟨1, some 9, none, .mv (.t 0)⟩,
    ⟨2, some 10, none, .len (.t 9)⟩,
    ⟨3, some 11, none, .bin .lss (.t 8) (.t 10)⟩] [0, 3, 4, 11])
  (.cond (.t 11)
  .skip
  (.exit 0)))
  (.seq (.block 1
  (.reg [⟨0, some 14, none, .mv (.t 3)⟩,
    ⟨1, some 15, none, .mv (.t 4)⟩,
    ⟨2, some 16, none, .mv (.t 0)⟩,
    ⟨3, some 17, none, .mv (.t 4)⟩,
    ⟨4, some 18, none, .idx 2 (.t 16) (.t 17)⟩,
    ⟨5, some 19, none, .load (some 2) (.t 18)⟩,
    ⟨6, some 20, none, .call (.alone false false) 64 [.t 19]⟩,
    ⟨7, some 21, none, .idx 2 (.t 14) (.t 15)⟩,
    ⟨8, none, none, .store 2 (.t 21) (.t 20)⟩] [0, 3, 4]))
  (.reg [⟨0, some 12, none, .mv (.t 4)⟩,
    ⟨1, some 13, none, .bin .add (.t 12) (.c (.int .i64 1))⟩,
    ⟨2, some 4, none, .mv (.t 13)⟩] [0, 3, 4])))
def l_34_0 : AC := b_34_0
theorem u_34_0 {A : Nat → Option AFn} {mt : Nat → Nat → Option Nat} {fr : Fr} {G : AG} {S : List KF} : evS A mt l_34_0 fr G S = evS A mt b_34_0 fr G S := rfl
/-- laws.toValS -/
def c_34 : AFn := ⟨1, 23, [], [.t 2],
  (.seq (.reg [⟨0, some 2, none, .mv (.c (.nils))⟩] [0])
  (.seq (.reg [⟨0, some 5, none, .mv (.t 0)⟩,
    ⟨1, some 6, none, .len (.t 5)⟩,
    ⟨2, some 7, none, .mks [.int .i64 0, .int .i64 0] 16 (.t 6)⟩,
    ⟨3, some 3, none, .mv (.t 7)⟩] [0, 3])
  (.seq (.seq (.reg [⟨0, some 4, none, .mv (.c (.int .i64 0))⟩] [0, 3, 4])
  (.block 0
  (.loop l_34_0)))
  (.seq (.reg [⟨0, some 22, none, .mv (.t 3)⟩,
    ⟨1, some 2, none, .mv (.t 22)⟩] [2])
  .ret))))⟩
def b_35_0 : AC := (.seq (.reg [⟨0, some 49, none, .bin .lss (.t 48) (.t 47)⟩] [2, 3, 5, 46, 47, 48, 49])
  (.seq (.cond (.t 49)
  .skip
  (.exit 0))
  (.seq (.block 1
  (.seq (.reg [⟨0, some 50, none, .idx 6 (.t 46) (.t 48)⟩,
    ⟨1, some 51, none, .load (some 6) (.t 50)⟩,
    ⟨2, some 7, none, .allocP [.int .i64 0, .int .i64 0, .nils, .nils, .int .i64 0, .bool false]⟩,
    ⟨3, none, none, .store 6 (.t 7) (.t 51)⟩] [2, 3, 5, 7, 46, 47, 48])
  (.seq (.seq (.reg [⟨0, some 52, none, .load (some 6) (.t 7)⟩,
    ⟨1, some 53, none, .load (some 1) (.t 2)⟩,
    ⟨2, some 54, none, .fld 0 (.t 3)⟩,
    ⟨3, some 55, none, .load none (.t 54)⟩,
    ⟨4, some 56, none, .len (.t 55)⟩,
    ⟨5, some 57, none, .call (.alone false true) 68 [.t 52, .t 53, .t 56]⟩,
    ⟨6, some 58, none, .nt (.t 57)⟩] [2, 3, 5, 7, 46, 47, 48, 58])
  (.cond (.t 58)
  (.seq (.reg [⟨0, some 4, none, .mv (.c (.bool false))⟩] [4])
  .ret)
  .skip))
  (.seq (.reg [⟨0, some 59, none, .fld 5 (.t 7)⟩,
    ⟨1, some 60, none, .load none (.t 59)⟩,
    ⟨2, some 61, none, .nt (.t 60)⟩] [2, 3, 5, 46, 47, 48, 61])
  (.cond (.t 61)
  (.reg [⟨0, some 62, none, .mv (.t 5)⟩,
    ⟨1, some 63, none, .bin .add (.t 62) (.c (.int .i64 1))⟩,
    ⟨2, some 5, none, .mv (.t 63)⟩] [2, 3, 5, 46, 47, 48])
  .skip)))))
  (.reg [⟨0, some 64, none, .bin .add (.t 48) (.c (.int .i64 1))⟩,
    ⟨1, some 48, none, .mv (.t 64)⟩] [2, 3, 5, 46, 47, 48]))))
def l_35_0 : AC := b_35_0
theorem u_35_0 {A : Nat → Option AFn} {mt : Nat → Nat → Option Nat} {fr : Fr} {G : AG} {S : List KF} : evS A mt l_35_0 fr G S = evS A mt b_35_0 fr G S := rfl
def b_35_1 : AC := (.seq (.seq (.reg [⟨0, some 67, none, .mv (.t 8)⟩,
    ⟨1, some 68, none, .bin .geq (.t 67) (.c (.int .i64 0))⟩] [3, 5, 8, 68])
  (.cond (.t 68)
  .skip
  (.exit 2)))
  (.seq (.block 3
  (.seq (.reg [⟨0, some 75, none, .fld 0 (.t 3)⟩,
    ⟨1, some 76, none, .load none (.t 75)⟩,
    ⟨2, some 77, none, .mv (.t 8)⟩,
    ⟨3, some 78, none, .idx 6 (.t 76) (.t 77)⟩,
    ⟨4, some 79, none, .load (some 6) (.t 78)⟩,
    ⟨5, some 9, none, .allocP [.int .i64 0, .int .i64 0, .nils, .nils, .int .i64 0, .bool false]⟩,
    ⟨6, none, none, .store 6 (.t 9) (.t 79)⟩] [3, 5, 8, 9])
  (.seq (.reg [⟨0, some 80, none, .mv (.t 5)⟩,
    ⟨1, some 81, none, .bin .sub (.t 80) (.c (.int .i64 1))⟩,
    ⟨2, some 5, none, .mv (.t 81)⟩] [3, 5, 8, 9])
  (.seq (.reg [⟨0, some 82, none, .mv (.t 5)⟩,
    ⟨1, some 83, none, .bin .lss (.t 82) (.c (.int .i64 0))⟩,
    ⟨2, some 84, none, .mv (.t 83)⟩,
    ⟨3, some 85, some (84, false), .fld 5 (.t 9)⟩,
    ⟨4, some 86, some (84, false), .load none (.t 85)⟩,
    ⟨5, some 87, none, .pick (.t 84) (.c (.bool true)) (.t 86)⟩,
    ⟨6, some 88, none, .mv (.t 87)⟩,
    ⟨7, some 89, some (88, false), .mv (.t 8)⟩,
    ⟨8, some 90, some (88, false), .fld 1 (.t 3)⟩,
    ⟨9, some 91, some (88, false), .load none (.t 90)⟩,
    ⟨10, some 92, some (88, false), .bin .neq (.t 89) (.t 91)⟩,
    ⟨11, some 93, some (88, false), .mv (.t 92)⟩,
    ⟨12, some 94, some (93, true), .fld 3 (.t 9)⟩,
    ⟨13, some 95, some (93, true), .load none (.t 94)⟩,
    ⟨14, some 96, some (93, true), .len (.t 95)⟩,
    ⟨15, some 97, some (93, true), .bin .eql (.t 96) (.c (.int .i64 6))⟩,
    ⟨16, some 98, some (88, false), .pick (.t 93) (.t 97) (.c (.bool false))⟩,
    ⟨17, some 99, none, .pick (.t 88) (.c (.bool true)) (.t 98)⟩] [3, 5, 8, 99])
  (.cond (.t 99)
  (.seq (.reg [⟨0, some 4, none, .mv (.c (.bool false))⟩] [4])
  .ret)
  .skip)))))
  (.reg [⟨0, some 69, none, .fld 0 (.t 3)⟩,
    ⟨1, some 70, none, .load none (.t 69)⟩,
    ⟨2, some 71, none, .mv (.t 8)⟩,
    ⟨3, some 72, none, .idx 6 (.t 70) (.t 71)⟩,
    ⟨4, some 73, none, .fld 4 (.t 72)⟩,
    ⟨5, some 74, none, .load none (.t 73)⟩,
    ⟨6, some 8, none, .mv (.t 74)⟩] [3, 5, 8])))
def l_35_1 : AC := b_35_1
theorem u_35_1 {A : Nat → Option AFn} {mt : Nat → Nat → Option Nat} {fr : Fr} {G : AG} {S : List KF} : evS A mt l_35_1 fr G S = evS A mt b_35_1 fr G S := rfl
/-- impl.HeapOk -/
def c_35 : AFn := ⟨2, 102, [2, 3, 7, 9], [.t 4],
  (.seq (.reg [⟨0, some 2, none, .boxP (.t 0)⟩,
    ⟨1, some 3, none, .boxP (.t 1)⟩,
    ⟨2, some 4, none, .mv (.c (.bool false))⟩] [2, 3])
  (.seq (.seq (.reg [⟨0, some 10, none, .load (some 1) (.t 2)⟩,
    ⟨1, some 11, none, .call (.alone false true) 65 [.t 10]⟩,
    ⟨2, some 12, none, .nt (.t 11)⟩,
    ⟨3, some 13, none, .mv (.t 12)⟩,
    ⟨4, some 14, some (13, false), .fld 1 (.t 3)⟩,
    ⟨5, some 15, some (13, false), .load none (.t 14)⟩,
    ⟨6, some 16, some (13, false), .fld 0 (.t 3)⟩,
    ⟨7, some 17, some (13, false), .load none (.t 16)⟩,
    ⟨8, some 18, some (13, false), .len (.t 17)⟩,
    ⟨9, some 19, some (13, false), .bin .sub (.t 18) (.c (.int .i64 1))⟩,
    ⟨10, some 20, some (13, false), .call (.alone false true) 66 [.t 15, .c (.int .i64 (-1)), .t 19]⟩,
    ⟨11, some 21, some (13, false), .nt (.t 20)⟩,
    ⟨12, some 22, none, .pick (.t 13) (.c (.bool true)) (.t 21)⟩,
    ⟨13, some 23, none, .mv (.t 22)⟩,
    ⟨14, some 24, some (23, false), .load (some 1) (.t 2)⟩,
    ⟨15, some 25, some (23, false), .fld 2 (.t 3)⟩,
    ⟨16, some 26, some (23, false), .load none (.t 25)⟩,
    ⟨17, some 27, some (23, false), .fld 3 (.t 3)⟩,
    ⟨18, some 28, some (23, false), .load none (.t 27)⟩,
    ⟨19, some 29, some (23, false), .fld 4 (.t 3)⟩,
    ⟨20, some 30, some (23, false), .load none (.t 29)⟩,
    ⟨21, some 31, some (23, false), .fld 1 (.t 3)⟩,
    ⟨22, some 32, some (23, false), .load none (.t 31)⟩,
    ⟨23, some 33, some (23, false), .bin .eql (.t 32) (.c (.int .i64 (-1)))⟩,
    ⟨24, some 34, some (23, false), .call (.alone false true) 67 [.t 24, .t 26, .t 28, .t 30, .t 33]⟩,
    ⟨25, some 35, some (23, false), .nt (.t 34)⟩,
    ⟨26, some 36, none, .pick (.t 23) (.c (.bool true)) (.t 35)⟩,
    ⟨27, some 37, none, .mv (.t 36)⟩,
    ⟨28, some 38, some (37, false), .fld 0 (.t 3)⟩,
    ⟨29, some 39, some (37, false), .load none (.t 38)⟩,
    ⟨30, some 40, some (37, false), .len (.t 39)⟩,
    ⟨31, some 41, some (37, false), .fld 2 (.t 3)⟩,
    ⟨32, some 42, some (37, false), .load none (.t 41)⟩,
    ⟨33, some 43, some (37, false), .bin .gtr (.t 40) (.t 42)⟩,
    ⟨34, some 44, none, .pick (.t 37) (.c (.bool true)) (.t 43)⟩] [2, 3, 44])
  (.cond (.t 44)
  (.seq (.reg [⟨0, some 4, none, .mv (.c (.bool false))⟩] [4])
  .ret)
  .skip))
  (.seq (.reg [⟨0, some 5, none, .mv (.c (.int .i64 0))⟩] [2, 3, 5])
  (.seq (.seq (.reg [⟨0, some 45, none, .fld 0 (.t 3)⟩,
    ⟨1, some 46, none, .load none (.t 45)⟩,
    ⟨2, some 47, none, .len (.t 46)⟩,
    ⟨3, some 48, none, .mv (.c (.int .i64 0))⟩] [2, 3, 5, 46, 47, 48])
  (.block 0
  (.loop l_35_0)))
  (.seq (.seq (.reg [⟨0, some 65, none, .fld 1 (.t 3)⟩,
    ⟨1, some 66, none, .load none (.t 65)⟩,
    ⟨2, some 8, none, .mv (.t 66)⟩] [3, 5, 8])
  (.block 2
  (.loop l_35_1)))
  (.seq (.reg [⟨0, some 100, none, .mv (.t 5)⟩,
    ⟨1, some 101, none, .bin .eql (.t 100) (.c (.int .i64 0))⟩,
    ⟨2, some 4, none, .mv (.t 101)⟩] [4])
  .ret))))))⟩
def b_37_0 : AC := (.seq (.seq (.reg [⟨0, some 11, none, .mv (.t 5)⟩,
    ⟨1, some 12, none, .mv (.t 0)⟩,
    ⟨2, some 13, none, .len (.t 12)⟩,
    ⟨3, some 14, none, .bin .lss (.t 11) (.t 13)⟩] [0, 1, 5, 14])
  (.cond (.t 14)
  .skip
  (.exit 0)))
  (.seq (.block 1
  (.seq (.reg [⟨0, some 17, none, .mv (.t 0)⟩,
    ⟨1, some 18, none, .mv (.t 5)⟩,
    ⟨2, some 19, none, .idx 3 (.t 17) (.t 18)⟩,
    ⟨3, some 20, none, .load (some 3) (.t 19)⟩,
    ⟨4, some 21, none, .mv (.t 1)⟩,
    ⟨5, some 22, none, .mv (.t 5)⟩,
    ⟨6, some 23, none, .idx 3 (.t 21) (.t 22)⟩,
    ⟨7, some 24, none, .load (some 3) (.t 23)⟩,
    ⟨8, some 25, none, .call (.alone false true) 69 [.t 20, .t 24]⟩,
    ⟨9, some 26, none, .nt (.t 25)⟩] [0, 1, 5, 26])
  (.cond (.t 26)
  (.seq (.reg [⟨0, some 4, none, .mv (.c (.bool false))⟩] [4])
  .ret)
  .skip)))
  (.reg [⟨0, some 15, none, .mv (.t 5)⟩,
    ⟨1, some 16, none, .bin .add (.t 15) (.c (.int .i64 1))⟩,
    ⟨2, some 5, none, .mv (.t 16)⟩] [0, 1, 5])))
def l_37_0 : AC := b_37_0
theorem u_37_0 {A : Nat → Option AFn} {mt : Nat → Nat → Option Nat} {fr : Fr} {G : AG} {S : List KF} : evS A mt l_37_0 fr G S = evS A mt b_37_0 fr G S := rfl
/-- laws.eqMethodS -/
def c_37 : AFn := ⟨2, 27, [], [.t 4],
  (.seq (.reg [⟨0, some 4, none, .mv (.c (.bool false))⟩] [0, 1])
  (.seq (.seq (.reg [⟨0, some 6, none, .mv (.t 0)⟩,
    ⟨1, some 7, none, .len (.t 6)⟩,
    ⟨2, some 8, none, .mv (.t 1)⟩,
    ⟨3, some 9, none, .len (.t 8)⟩,
    ⟨4, some 10, none, .bin .neq (.t 7) (.t 9)⟩] [0, 1, 10])
  (.cond (.t 10)
  (.seq (.reg [⟨0, some 4, none, .mv (.c (.bool false))⟩] [4])
  .ret)
  .skip))
  (.seq (.seq (.reg [⟨0, some 5, none, .mv (.c (.int .i64 0))⟩] [0, 1, 5])
  (.block 0
  (.loop l_37_0)))
  (.seq (.reg [⟨0, some 4, none, .mv (.c (.bool true))⟩] [4])
  .ret))))⟩
def b_38_0 : AC := (.seq (.seq (.reg [⟨0, some 11, none, .mv (.t 5)⟩,
    ⟨1, some 12, none, .mv (.t 0)⟩,
    ⟨2, some 13, none, .len (.t 12)⟩,
    ⟨3, some 14, none, .bin .lss (.t 11) (.t 13)⟩] [0, 1, 5, 14])
  (.cond (.t 14)
  .skip
  (.exit 0)))
  (.seq (.block 1
  (.seq (.reg [⟨0, some 17, none, .mv (.t 0)⟩,
    ⟨1, some 18, none, .mv (.t 5)⟩,
    ⟨2, some 19, none, .idx 6 (.t 17) (.t 18)⟩,
    ⟨3, some 20, none, .load (some 6) (.t 19)⟩,
    ⟨4, some 21, none, .mv (.t 1)⟩,
    ⟨5, some 22, none, .mv (.t 5)⟩,
    ⟨6, some 23, none, .idx 6 (.t 21) (.t 22)⟩,
    ⟨7, some 24, none, .load (some 6) (.t 23)⟩,
    ⟨8, some 25, none, .call (.alone false true) 70 [.t 20, .t 24]⟩,
    ⟨9, some 26, none, .nt (.t 25)⟩] [0, 1, 5, 26])
  (.cond (.t 26)
  (.seq (.reg [⟨0, some 4, none, .mv (.c (.bool false))⟩] [4])
  .ret)
  .skip)))
  (.reg [⟨0, some 15, none, .mv (.t 5)⟩,
    ⟨1, some 16, none, .bin .add (.t 15) (.c (.int .i64 1))⟩,
    ⟨2, some 5, none, .mv (.t 16)⟩] [0, 1, 5])))
def l_38_0 : AC := b_38_0
theorem u_38_0 {A : Nat → Option AFn} {mt : Nat → Nat → Option Nat} {fr : Fr} {G : AG} {S : List KF} : evS A mt l_38_0 fr G S = evS A mt b_38_0 fr G S := rfl
/-- laws.eqCallS -/
def c_38 : AFn := ⟨2, 27, [], [.t 4],
  (.seq (.reg [⟨0, some 4, none, .mv (.c (.bool false))⟩] [0, 1])
  (.seq (.seq (.reg [⟨0, some 6, none, .mv (.t 0)⟩,
    ⟨1, some 7, none, .len (.t 6)⟩,
    ⟨2, some 8, none, .mv (.t 1)⟩,
    ⟨3, some 9, none, .len (.t 8)⟩,
    ⟨4, some 10, none, .bin .neq (.t 7) (.t 9)⟩] [0, 1, 10])
  (.cond (.t 10)
  (.seq (.reg [⟨0, some 4, none, .mv (.c (.bool false))⟩] [4])
  .ret)
  .skip))
  (.seq (.seq (.reg [⟨0, some 5, none, .mv (.c (.int .i64 0))⟩] [0, 1, 5])
  (.block 0
  (.loop l_38_0)))
  (.seq (.reg [⟨0, some 4, none, .mv (.c (.bool true))⟩] [4])
  .ret))))⟩
def b_39_0 : AC := (.seq (.seq (.reg [⟨0, some 11, none, .mv (.t 5)⟩,
    ⟨1, some 12, none, .mv (.t 0)⟩,
    ⟨2, some 13, none, .len (.t 12)⟩,
    ⟨3, some 14, none, .bin .lss (.t 11) (.t 13)⟩] [0, 1, 5, 14])
  (.cond (.t 14)
  .skip
  (.exit 0)))
  (.seq (.block 1
  (.seq (.reg [⟨0, some 17, none, .mv (.t 0)⟩,
    ⟨1, some 18, none, .mv (.t 5)⟩,
    ⟨2, some 19, none, .idx 2 (.t 17) (.t 18)⟩,
    ⟨3, some 20, none, .load (some 2) (.t 19)⟩,
    ⟨4, some 21, none, .mv (.t 1)⟩,
    ⟨5, some 22, none, .mv (.t 5)⟩,
    ⟨6, some 23, none, .idx 2 (.t 21) (.t 22)⟩,
    ⟨7, some 24, none, .load (some 2) (.t 23)⟩,
    ⟨8, some 25, none, .call (.alone false true) 71 [.t 20, .t 24]⟩,
    ⟨9, some 26, none, .nt (.t 25)⟩] [0, 1, 5, 26])
  (.cond (.t 26)
  (.seq (.reg [⟨0, some 4, none, .mv (.c (.bool false))⟩] [4])
  .ret)
  .skip)))
  (.reg [⟨0, some 15, none, .mv (.t 5)⟩,
    ⟨1, some 16, none, .bin .add (.t 15) (.c (.int .i64 1))⟩,
    ⟨2, some 5, none, .mv (.t 16)⟩] [0, 1, 5])))
def l_39_0 : AC := b_39_0
theorem u_39_0 {A : Nat → Option AFn} {mt : Nat → Nat → Option Nat} {fr : Fr} {G : AG} {S : List KF} : evS A mt l_39_0 fr G S = evS A mt b_39_0 fr G S := rfl
/-- laws.eqValS -/
def c_39 : AFn := ⟨2, 27, [], [.t 4],
  (.seq (.reg [⟨0, some 4, none, .mv (.c (.bool false))⟩] [0, 1])
  (.seq (.seq (.reg [⟨0, some 6, none, .mv (.t 0)⟩,
    ⟨1, some 7, none, .len (.t 6)⟩,
    ⟨2, some 8, none, .mv (.t 1)⟩,
    ⟨3, some 9, none, .len (.t 8)⟩,
    ⟨4, some 10, none, .bin .neq (.t 7) (.t 9)⟩] [0, 1, 10])
  (.cond (.t 10)
  (.seq (.reg [⟨0, some 4, none, .mv (.c (.bool false))⟩] [4])
  .ret)
  .skip))
  (.seq (.seq (.reg [⟨0, some 5, none, .mv (.c (.int .i64 0))⟩] [0, 1, 5])
  (.block 0
  (.loop l_39_0)))
  (.seq (.reg [⟨0, some 4, none, .mv (.c (.bool true))⟩] [4])
  .ret))))⟩
def b_40_0 : AC := (.seq (.seq (.reg [⟨0, some 8, none, .mv (.t 4)⟩,
    ⟨1, some 9, none, .bin .geq (.t 8) (.c (.int .i64 0))⟩] [1, 3, 4, 9])
  (.cond (.t 9)
  .skip
  (.exit 0)))
  (.seq (.block 1
  (.seq (.seq (.reg [⟨0, some 16, none, .mv (.t 3)⟩,
    ⟨1, some 17, none, .len (.t 16)⟩,
    ⟨2, some 18, none, .fld 0 (.t 1)⟩,
    ⟨3, some 19, none, .load none (.t 18)⟩,
    ⟨4, some 20, none, .len (.t 19)⟩,
    ⟨5, some 21, none, .bin .geq (.t 17) (.t 20)⟩,
    ⟨6, some 22, none, .mv (.t 21)⟩,
    ⟨7, some 23, some (22, false), .mv (.t 4)⟩,
    ⟨8, some 24, some (22, false), .fld 0 (.t 1)⟩,
    ⟨9, some 25, some (22, false), .load none (.t 24)⟩,
    ⟨10, some 26, some (22, false), .len (.t 25)⟩,
    ⟨11, some 27, some (22, false), .bin .geq (.t 23) (.t 26)⟩,
    ⟨12, some 28, none, .pick (.t 22) (.c (.bool true)) (.t 27)⟩,
    ⟨13, some 29, none, .mv (.t 28)⟩,
    ⟨14, some 30, some (29, false), .fld 0 (.t 1)⟩,
    ⟨15, some 31, some (29, false), .load none (.t 30)⟩,
    ⟨16, some 32, some (29, false), .mv (.t 4)⟩,
    ⟨17, some 33, some (29, false), .idx 6 (.t 31) (.t 32)⟩,
    ⟨18, some 34, some (29, false), .fld 5 (.t 33)⟩,
    ⟨19, some 35, some (29, false), .load none (.t 34)⟩,
    ⟨20, some 36, none, .pick (.t 29) (.c (.bool true)) (.t 35)⟩] [1, 3, 4, 36])
  (.cond (.t 36)
  (.seq (.reg [⟨0, some 37, none, .litO 1 []⟩,
    ⟨1, some 2, none, .mv (.t 37)⟩] [2])
  .ret)
  .skip))
  (.reg [⟨0, some 38, none, .mv (.t 3)⟩,
    ⟨1, some 39, none, .mv (.t 4)⟩,
    ⟨2, some 40, none, .litI 1 [.t 39]⟩,
    ⟨3, some 41, none, .app 1 8 (.t 38) (.t 40)⟩,
    ⟨4, some 3, none, .mv (.t 41)⟩] [1, 3, 4])))
  (.reg [⟨0, some 10, none, .fld 0 (.t 1)⟩,
    ⟨1, some 11, none, .load none (.t 10)⟩,
    ⟨2, some 12, none, .mv (.t 4)⟩,
    ⟨3, some 13, none, .idx 6 (.t 11) (.t 12)⟩,
    ⟨4, some 14, none, .fld 4 (.t 13)⟩,
    ⟨5, some 15, none, .load none (.t 14)⟩,
    ⟨6, some 4, none, .mv (.t 15)⟩] [1, 3, 4])))
def l_40_0 : AC := b_40_0
theorem u_40_0 {A : Nat → Option AFn} {mt : Nat → Nat → Option Nat} {fr : Fr} {G : AG} {S : List KF} : evS A mt l_40_0 fr G S = evS A mt b_40_0 fr G S := rfl
/-- spec.l11Chain -/
def c_40 : AFn := ⟨1, 43, [1], [.t 2],
  (.seq (.reg [⟨0, some 1, none, .boxP (.t 0)⟩,
    ⟨1, some 2, none, .mv (.c (.nils))⟩] [1])
  (.seq (.reg [⟨0, some 5, none, .litO 1 []⟩,
    ⟨1, some 3, none, .mv (.t 5)⟩] [1, 3])
  (.seq (.seq (.reg [⟨0, some 6, none, .fld 1 (.t 1)⟩,
    ⟨1, some 7, none, .load none (.t 6)⟩,
    ⟨2, some 4, none, .mv (.t 7)⟩] [1, 3, 4])
  (.block 0
  (.loop l_40_0)))
  (.seq (.reg [⟨0, some 42, none, .mv (.t 3)⟩,
    ⟨1, some 2, none, .mv (.t 42)⟩] [2])
  .ret))))⟩
def b_41_0 : AC := (.seq (.seq (.reg [⟨0, some 6, none, .mv (.t 5)⟩,
    ⟨1, some 7, none, .mv (.t 0)⟩,
    ⟨2, some 8, none, .len (.t 7)⟩,
    ⟨3, some 9, none, .bin .lss (.t 6) (.t 8)⟩] [0, 1, 5, 9])
  (.cond (.t 9)
  .skip
  (.exit 0)))
  (.seq (.block 1
  (.seq (.reg [⟨0, some 12, none, .mv (.t 0)⟩,
    ⟨1, some 13, none, .mv (.t 5)⟩,
    ⟨2, some 14, none, .mv (.t 1)⟩,
    ⟨3, some 15, none, .idx 3 (.t 12) (.t 13)⟩,
    ⟨4, some 16, none, .fld 0 (.t 15)⟩,
    ⟨5, none, none, .store 1 (.t 16) (.t 14)⟩] [0, 1, 5])
  (.seq (.reg [⟨0, some 17, none, .mv (.t 1)⟩,
    ⟨1, some 18, none, .bin .add (.t 17) (.c (.int .i64 1))⟩,
    ⟨2, some 1, none, .mv (.t 18)⟩] [0, 1, 5])
  (.seq (.reg [⟨0, some 19, none, .mv (.t 0)⟩,
    ⟨1, some 20, none, .mv (.t 5)⟩,
    ⟨2, some 21, none, .mv (.t 1)⟩,
    ⟨3, some 22, none, .idx 3 (.t 19) (.t 20)⟩,
    ⟨4, some 23, none, .fld 1 (.t 22)⟩,
    ⟨5, none, none, .store 1 (.t 23) (.t 21)⟩] [0, 1, 5])
  (.seq (.reg [⟨0, some 24, none, .mv (.t 1)⟩,
    ⟨1, some 25, none, .bin .add (.t 24) (.c (.int .i64 1))⟩,
    ⟨2, some 1, none, .mv (.t 25)⟩] [0, 1, 5])
  (.reg [⟨0, some 26, none, .mv (.t 0)⟩,
    ⟨1, some 27, none, .mv (.t 5)⟩,
    ⟨2, some 28, none, .idx 3 (.t 26) (.t 27)⟩,
    ⟨3, some 29, none, .fld 2 (.t 28)⟩,
    ⟨4, some 30, none, .load none (.t 29)⟩,
    ⟨5, some 31, none, .mv (.t 1)⟩,
    ⟨6, some 32, none, .call .whole 72 [.t 30, .t 31]⟩,
    ⟨7, some 1, none, .mv (.t 32)⟩] [0, 1, 5]))))))
  (.reg [⟨0, some 10, none, .mv (.t 5)⟩,
    ⟨1, some 11, none, .bin .add (.t 10) (.c (.int .i64 1))⟩,
    ⟨2, some 5, none, .mv (.t 11)⟩] [0, 1, 5])))
def l_41_0 : AC := b_41_0
theorem u_41_0 {A : Nat → Option AFn} {mt : Nat → Nat → Option Nat} {fr : Fr} {G : AG} {S : List KF} : evS A mt l_41_0 fr G S = evS A mt b_41_0 fr G S := rfl
/-- laws.markMethodS -/
def c_41 : AFn := ⟨2, 34, [], [.t 4],
  (.seq (.reg [⟨0, some 4, none, .mv (.c (.int .i64 0))⟩] [0, 1])
  (.seq (.seq (.reg [⟨0, some 5, none, .mv (.c (.int .i64 0))⟩] [0, 1, 5])
  (.block 0
  (.loop l_41_0)))
  (.seq (.reg [⟨0, some 33, none, .mv (.t 1)⟩,
    ⟨1, some 4, none, .mv (.t 33)⟩] [4])
  .ret)))⟩
def b_42_0 : AC := (.seq (.seq (.reg [⟨0, some 6, none, .mv (.t 5)⟩,
    ⟨1, some 7, none, .mv (.t 0)⟩,
    ⟨2, some 8, none, .len (.t 7)⟩,
    ⟨3, some 9, none, .bin .lss (.t 6) (.t 8)⟩] [0, 1, 5, 9])
  (.cond (.t 9)
  .skip
  (.exit 0)))
  (.seq (.block 1
  (.seq (.reg [⟨0, some 12, none, .mv (.t 0)⟩,
    ⟨1, some 13, none, .mv (.t 5)⟩,
    ⟨2, some 14, none, .mv (.t 1)⟩,
    ⟨3, some 15, none, .idx 6 (.t 12) (.t 13)⟩,
    ⟨4, some 16, none, .fld 0 (.t 15)⟩,
    ⟨5, none, none, .store 1 (.t 16) (.t 14)⟩] [0, 1, 5])
  (.seq (.reg [⟨0, some 17, none, .mv (.t 1)⟩,
    ⟨1, some 18, none, .bin .add (.t 17) (.c (.int .i64 1))⟩,
    ⟨2, some 1, none, .mv (.t 18)⟩] [0, 1, 5])
  (.seq (.reg [⟨0, some 19, none, .mv (.t 0)⟩,
    ⟨1, some 20, none, .mv (.t 5)⟩,
    ⟨2, some 21, none, .mv (.t 1)⟩,
    ⟨3, some 22, none, .idx 6 (.t 19) (.t 20)⟩,
    ⟨4, some 23, none, .fld 1 (.t 22)⟩,
    ⟨5, none, none, .store 1 (.t 23) (.t 21)⟩] [0, 1, 5])
  (.seq (.reg [⟨0, some 24, none, .mv (.t 1)⟩,
    ⟨1, some 25, none, .bin .add (.t 24) (.c (.int .i64 1))⟩,
    ⟨2, some 1, none, .mv (.t 25)⟩] [0, 1, 5])
  (.seq (.reg [⟨0, some 26, none, .mv (.t 0)⟩,
    ⟨1, some 27, none, .mv (.t 5)⟩,
    ⟨2, some 28, none, .idx 6 (.t 26) (.t 27)⟩,
    ⟨3, some 29, none, .fld 2 (.t 28)⟩,
    ⟨4, some 30, none, .load none (.t 29)⟩,
    ⟨5, some 31, none, .mv (.t 1)⟩,
    ⟨6, some 32, none, .call .whole 43 [.t 30, .t 31]⟩,
    ⟨7, some 1, none, .mv (.t 32)⟩] [0, 1, 5])
  (.seq (.reg [⟨0, some 33, none, .mv (.t 0)⟩,
    ⟨1, some 34, none, .mv (.t 5)⟩,
    ⟨2, some 35, none, .idx 6 (.t 33) (.t 34)⟩,
    ⟨3, some 36, none, .fld 3 (.t 35)⟩,
    ⟨4, some 37, none, .load none (.t 36)⟩,
    ⟨5, some 38, none, .mv (.t 1)⟩,
    ⟨6, some 39, none, .call .whole 43 [.t 37, .t 38]⟩,
    ⟨7, some 1, none, .mv (.t 39)⟩] [0, 1, 5])
  (.seq (.reg [⟨0, some 40, none, .mv (.t 0)⟩,
    ⟨1, some 41, none, .mv (.t 5)⟩,
    ⟨2, some 42, none, .mv (.t 1)⟩,
    ⟨3, some 43, none, .idx 6 (.t 40) (.t 41)⟩,
    ⟨4, some 44, none, .fld 4 (.t 43)⟩,
    ⟨5, none, none, .store 1 (.t 44) (.t 42)⟩] [0, 1, 5])
  (.seq (.reg [⟨0, some 45, none, .mv (.t 1)⟩,
    ⟨1, some 46, none, .bin .add (.t 45) (.c (.int .i64 1))⟩,
    ⟨2, some 1, none, .mv (.t 46)⟩] [0, 1, 5])
  (.seq (.reg [⟨0, some 47, none, .mv (.t 0)⟩,
    ⟨1, some 48, none, .mv (.t 5)⟩,
    ⟨2, some 49, none, .mv (.t 1)⟩,
    ⟨3, some 50, none, .bin .rem (.t 49) (.c (.int .i64 3))⟩,
    ⟨4, some 51, none, .bin .eql (.t 50) (.c (.int .i64 0))⟩,
    ⟨5, some 52, none, .idx 6 (.t 47) (.t 48)⟩,
    ⟨6, some 53, none, .fld 5 (.t 52)⟩,
    ⟨7, none, none, .store 1 (.t 53) (.t 51)⟩] [0, 1, 5])
  (.reg [⟨0, some 54, none, .mv (.t 1)⟩,
    ⟨1, some 55, none, .bin .add (.t 54) (.c (.int .i64 1))⟩,
    ⟨2, some 1, none, .mv (.t 55)⟩] [0, 1, 5])))))))))))
  (.reg [⟨0, some 10, none, .mv (.t 5)⟩,
    ⟨1, some 11, none, .bin .add (.t 10) (.c (.int .i64 1))⟩,
    ⟨2, some 5, none, .mv (.t 11)⟩] [0, 1, 5])))
def l_42_0 : AC := b_42_0
theorem u_42_0 {A : Nat → Option AFn} {mt : Nat → Nat → Option Nat} {fr : Fr} {G : AG} {S : List KF} : evS A mt l_42_0 fr G S = evS A mt b_42_0 fr G S := rfl
/-- laws.markCallS -/
def c_42 : AFn := ⟨2, 57, [], [.t 4],
  (.seq (.reg [⟨0, some 4, none, .mv (.c (.int .i64 0))⟩] [0, 1])
  (.seq (.seq (.reg [⟨0, some 5, none, .mv (.c (.int .i64 0))⟩] [0, 1, 5])
  (.block 0
  (.loop l_42_0)))
  (.seq (.reg [⟨0, some 56, none, .mv (.t 1)⟩,
    ⟨1, some 4, none, .mv (.t 56)⟩] [4])
  .ret)))⟩
def b_43_0 : AC := (.seq (.seq (.reg [⟨0, some 6, none, .mv (.t 5)⟩,
    ⟨1, some 7, none, .mv (.t 0)⟩,
    ⟨2, some 8, none, .len (.t 7)⟩,
    ⟨3, some 9, none, .bin .lss (.t 6) (.t 8)⟩] [0, 1, 5, 9])
  (.cond (.t 9)
  .skip
  (.exit 0)))
  (.seq (.block 1
  (.seq (.reg [⟨0, some 12, none, .mv (.t 0)⟩,
    ⟨1, some 13, none, .mv (.t 5)⟩,
    ⟨2, some 14, none, .mv (.t 1)⟩,
    ⟨3, some 15, none, .idx 2 (.t 12) (.t 13)⟩,
    ⟨4, some 16, none, .fld 0 (.t 15)⟩,
    ⟨5, none, none, .store 1 (.t 16) (.t 14)⟩] [0, 1, 5])
  (.seq (.reg [⟨0, some 17, none, .mv (.t 1)⟩,
    ⟨1, some 18, none, .bin .add (.t 17) (.c (.int .i64 1))⟩,
    ⟨2, some 1, none, .mv (.t 18)⟩] [0, 1, 5])
  (.seq (.reg [⟨0, some 19, none, .mv (.t 0)⟩,
    ⟨1, some 20, none, .mv (.t 5)⟩,
    ⟨2, some 21, none, .mv (.t 1)⟩,
    ⟨3, some 22, none, .idx 2 (.t 19) (.t 20)⟩,
    ⟨4, some 23, none, .fld 1 (.t 22)⟩,
    ⟨5, none, none, .store 1 (.t 23) (.t 21)⟩] [0, 1, 5])
  (.reg [⟨0, some 24, none, .mv (.t 1)⟩,
    ⟨1, some 25, none, .bin .add (.t 24) (.c (.int .i64 1))⟩,
    ⟨2, some 1, none, .mv (.t 25)⟩] [0, 1, 5])))))
  (.reg [⟨0, some 10, none, .mv (.t 5)⟩,
    ⟨1, some 11, none, .bin .add (.t 10) (.c (.int .i64 1))⟩,
    ⟨2, some 5, none, .mv (.t 11)⟩] [0, 1, 5])))
def l_43_0 : AC := b_43_0
theorem u_43_0 {A : Nat → Option AFn} {mt : Nat → Nat → Option Nat} {fr : Fr} {G : AG} {S : List KF} : evS A mt l_43_0 fr G S = evS A mt b_43_0 fr G S := rfl
/-- laws.markValS -/
def c_43 : AFn := ⟨2, 27, [], [.t 4],
  (.seq (.reg [⟨0, some 4, none, .mv (.c (.int .i64 0))⟩] [0, 1])
  (.seq (.seq (.reg [⟨0, some 5, none, .mv (.c (.int .i64 0))⟩] [0, 1, 5])
  (.block 0
  (.loop l_43_0)))
  (.seq (.reg [⟨0, some 26, none, .mv (.t 1)⟩,
    ⟨1, some 4, none, .mv (.t 26)⟩] [4])
  .ret)))⟩
def b_54_0 : AC := (.seq (.seq (.reg [⟨0, some 17, none, .mv (.t 3)⟩,
    ⟨1, some 18, none, .fld 0 (.t 1)⟩,
    ⟨2, some 19, none, .load none (.t 18)⟩,
    ⟨3, some 20, none, .len (.t 19)⟩,
    ⟨4, some 21, none, .bin .lss (.t 17) (.t 20)⟩] [1, 3, 21])
  (.cond (.t 21)
  .skip
  (.exit 0)))
  (.seq (.block 1
  (.seq (.reg [⟨0, some 24, none, .load (some 1) (.t 1)⟩,
    ⟨1, some 25, none, .fld 0 (.t 1)⟩,
    ⟨2, some 26, none, .load none (.t 25)⟩,
    ⟨3, some 27, none, .mv (.t 3)⟩,
    ⟨4, some 28, none, .idx 3 (.t 26) (.t 27)⟩,
    ⟨5, some 29, none, .load (some 3) (.t 28)⟩,
    ⟨6, some 30, none, .call (.alone false true) 82 [.t 24, .t 29]⟩,
    ⟨7, some 31, none, .nt (.t 30)⟩] [1, 3, 31])
  (.cond (.t 31)
  (.seq (.reg [⟨0, some 2, none, .mv (.c (.bool false))⟩] [2])
  .ret)
  .skip)))
  (.reg [⟨0, some 22, none, .mv (.t 3)⟩,
    ⟨1, some 23, none, .bin .add (.t 22) (.c (.int .i64 1))⟩,
    ⟨2, some 3, none, .mv (.t 23)⟩] [1, 3])))
def l_54_0 : AC := b_54_0
theorem u_54_0 {A : Nat → Option AFn} {mt : Nat → Nat → Option Nat} {fr : Fr} {G : AG} {S : List KF} : evS A mt l_54_0 fr G S = evS A mt b_54_0 fr G S := rfl
/-- spec.ProgOk -/
def c_54 : AFn := ⟨1, 32, [1], [.t 2],
  (.seq (.reg [⟨0, some 1, none, .boxP (.t 0)⟩,
    ⟨1, some 2, none, .mv (.c (.bool false))⟩] [1])
  (.seq (.seq (.reg [⟨0, some 4, none, .fld 0 (.t 1)⟩,
    ⟨1, some 5, none, .load none (.t 4)⟩,
    ⟨2, some 6, none, .len (.t 5)⟩,
    ⟨3, some 7, none, .call (.alone false true) 55 [.t 6, .c (.int .i64 1), .c (.int .i64 4)]⟩,
    ⟨4, some 8, none, .nt (.t 7)⟩,
    ⟨5, some 9, none, .mv (.t 8)⟩,
    ⟨6, some 10, some (9, false), .fld 0 (.t 1)⟩,
    ⟨7, some 11, some (9, false), .load none (.t 10)⟩,
    ⟨8, some 12, some (9, false), .idx 3 (.t 11) (.c (.int .i64 0))⟩,
    ⟨9, some 13, some (9, false), .fld 0 (.t 12)⟩,
    ⟨10, some 14, some (9, false), .load none (.t 13)⟩,
    ⟨11, some 15, some (9, false), .bin .neq (.t 14) (.c (.int .i64 0))⟩,
    ⟨12, some 16, none, .pick (.t 9) (.c (.bool true)) (.t 15)⟩] [1, 16])
  (.cond (.t 16)
  (.seq (.reg [⟨0, some 2, none, .mv (.c (.bool false))⟩] [2])
  .ret)
  .skip))
  (.seq (.seq (.reg [⟨0, some 3, none, .mv (.c (.int .i64 0))⟩] [1, 3])
  (.block 0
  (.loop l_54_0)))
  (.seq (.reg [⟨0, some 2, none, .mv (.c (.bool true))⟩] [2])
  .ret))))⟩
/-- spec.l6In -/
def c_55 : AFn := ⟨3, 15, [], [.t 6],
  (.seq (.reg [⟨0, some 6, none, .mv (.c (.bool false))⟩] [0, 1, 2])
  (.seq (.reg [⟨0, some 7, none, .mv (.t 0)⟩,
    ⟨1, some 8, none, .mv (.t 1)⟩,
    ⟨2, some 9, none, .bin .geq (.t 7) (.t 8)⟩,
    ⟨3, some 10, none, .mv (.t 9)⟩,
    ⟨4, some 11, some (10, true), .mv (.t 0)⟩,
    ⟨5, some 12, some (10, true), .mv (.t 2)⟩,
    ⟨6, some 13, some (10, true), .bin .leq (.t 11) (.t 12)⟩,
    ⟨7, some 14, none, .pick (.t 10) (.t 13) (.c (.bool false))⟩,
    ⟨8, some 6, none, .mv (.t 14)⟩] [6])
  .ret))⟩
def b_56_0 : AC := (.seq (.seq (.reg [⟨0, some 7, none, .mv (.t 5)⟩,
    ⟨1, some 8, none, .mv (.t 1)⟩,
    ⟨2, some 9, none, .len (.t 8)⟩,
    ⟨3, some 10, none, .bin .lss (.t 7) (.t 9)⟩] [1, 2, 5, 10])
  (.cond (.t 10)
  .skip
  (.exit 0)))
  (.seq (.block 1
  (.seq (.reg [⟨0, some 13, none, .mv (.t 1)⟩,
    ⟨1, some 14, none, .mv (.t 5)⟩,
    ⟨2, some 15, none, .idx 2 (.t 13) (.t 14)⟩,
    ⟨3, some 16, none, .load (some 2) (.t 15)⟩,
    ⟨4, some 6, none, .allocP [.int .i64 0, .int .i64 0]⟩,
    ⟨5, none, none, .store 2 (.t 6) (.t 16)⟩] [1, 2, 5, 6])
  (.seq (.reg [⟨0, some 17, none, .fld 0 (.t 6)⟩,
    ⟨1, some 18, none, .load none (.t 17)⟩,
    ⟨2, some 19, none, .bin .eql (.t 18) (.c (.int .i64 2))⟩,
    ⟨3, some 20, none, .mv (.t 19)⟩,
    ⟨4, some 21, some (20, true), .fld 1 (.t 6)⟩,
    ⟨5, some 22, some (20, true), .load none (.t 21)⟩,
    ⟨6, some 23, some (20, true), .fld 0 (.t 2)⟩,
    ⟨7, some 24, some (20, true), .load none (.t 23)⟩,
    ⟨8, some 25, some (20, true), .len (.t 24)⟩,
    ⟨9, some 26, some (20, true), .bin .sub (.t 25) (.c (.int .i64 1))⟩,
    ⟨10, some 27, some (20, true), .call (.alone false true) 55 [.t 22, .c (.int .i64 0), .t 26]⟩,
    ⟨11, some 28, some (20, true), .nt (.t 27)⟩,
    ⟨12, some 29, none, .pick (.t 20) (.t 28) (.c (.bool false))⟩,
    ⟨13, some 30, none, .mv (.t 29)⟩,
    ⟨14, some 31, some (30, false), .fld 0 (.t 6)⟩,
    ⟨15, some 32, some (30, false), .load none (.t 31)⟩,
    ⟨16, some 33, some (30, false), .bin .neq (.t 32) (.c (.int .i64 2))⟩,
    ⟨17, some 34, some (30, false), .mv (.t 33)⟩,
    ⟨18, some 35, some (34, true), .load (some 2) (.t 6)⟩,
    ⟨19, some 36, some (34, true), .call (.alone false true) 83 [.t 35, .c (.int .i64 0)]⟩,
    ⟨20, some 37, some (34, true), .nt (.t 36)⟩,
    ⟨21, some 38, some (30, false), .pick (.t 34) (.t 37) (.c (.bool false))⟩,
    ⟨22, some 39, none, .pick (.t 30) (.c (.bool true)) (.t 38)⟩] [1, 2, 5, 39])
  (.cond (.t 39)
  (.seq (.reg [⟨0, some 4, none, .mv (.c (.bool false))⟩] [4])
  .ret)
  .skip))))
  (.reg [⟨0, some 11, none, .mv (.t 5)⟩,
    ⟨1, some 12, none, .bin .add (.t 11) (.c (.int .i64 1))⟩,
    ⟨2, some 5, none, .mv (.t 12)⟩] [1, 2, 5])))
def l_56_0 : AC := b_56_0
theorem u_56_0 {A : Nat → Option AFn} {mt : Nat → Nat → Option Nat} {fr : Fr} {G : AG} {S : List KF} : evS A mt l_56_0 fr G S = evS A mt b_56_0 fr G S := rfl
/-- spec.l11Said -/
def c_56 : AFn := ⟨2, 40, [2, 6], [.t 4],
  (.seq (.reg [⟨0, some 2, none, .boxP (.t 0)⟩,
    ⟨1, some 4, none, .mv (.c (.bool false))⟩] [1, 2])
  (.seq (.seq (.reg [⟨0, some 5, none, .mv (.c (.int .i64 0))⟩] [1, 2, 5])
  (.block 0
  (.loop l_56_0)))
  (.seq (.reg [⟨0, some 4, none, .mv (.c (.bool true))⟩] [4])
  .ret)))⟩
/-- spec.l11Form -/
def c_57 : AFn := ⟨3, 81, [3, 4], [.t 6],
  (.seq (.reg [⟨0, some 3, none, .boxP (.t 0)⟩,
    ⟨1, some 4, none, .boxP (.t 1)⟩,
    ⟨2, some 6, none, .mv (.c (.bool false))⟩] [2, 3, 4])
  (.seq (.seq (.reg [⟨0, some 7, none, .fld 0 (.t 4)⟩,
    ⟨1, some 8, none, .load none (.t 7)⟩,
    ⟨2, some 9, none, .fld 0 (.t 3)⟩,
    ⟨3, some 10, none, .load none (.t 9)⟩,
    ⟨4, some 11, none, .len (.t 10)⟩,
    ⟨5, some 12, none, .bin .sub (.t 11) (.c (.int .i64 1))⟩,
    ⟨6, some 13, none, .call (.alone false true) 55 [.t 8, .c (.int .i64 0), .t 12]⟩,
    ⟨7, some 14, none, .nt (.t 13)⟩,
    ⟨8, some 15, none, .mv (.t 14)⟩,
    ⟨9, some 16, some (15, false), .fld 1 (.t 4)⟩,
    ⟨10, some 17, some (15, false), .load none (.t 16)⟩,
    ⟨11, some 18, some (15, false), .fld 0 (.t 3)⟩,
    ⟨12, some 19, some (15, false), .load none (.t 18)⟩,
    ⟨13, some 20, some (15, false), .fld 0 (.t 4)⟩,
    ⟨14, some 21, some (15, false), .load none (.t 20)⟩,
    ⟨15, some 22, some (15, false), .idx 3 (.t 19) (.t 21)⟩,
    ⟨16, some 23, some (15, false), .fld 2 (.t 22)⟩,
    ⟨17, some 24, some (15, false), .load none (.t 23)⟩,
    ⟨18, some 25, some (15, false), .len (.t 24)⟩,
    ⟨19, some 26, some (15, false), .call (.alone false true) 55 [.t 17, .c (.int .i64 0), .t 25]⟩,
    ⟨20, some 27, some (15, false), .nt (.t 26)⟩,
    ⟨21, some 28, none, .pick (.t 15) (.c (.bool true)) (.t 27)⟩,
    ⟨22, some 29, none, .mv (.t 28)⟩,
    ⟨23, some 30, some (29, false), .fld 2 (.t 4)⟩,
    ⟨24, some 31, some (29, false), .load none (.t 30)⟩,
    ⟨25, some 32, some (29, false), .len (.t 31)⟩,
    ⟨26, some 33, some (29, false), .fld 0 (.t 3)⟩,
    ⟨27, some 34, some (29, false), .load none (.t 33)⟩,
    ⟨28, some 35, some (29, false), .fld 0 (.t 4)⟩,
    ⟨29, some 36, some (29, false), .load none (.t 35)⟩,
    ⟨30, some 37, some (29, false), .idx 3 (.t 34) (.t 36)⟩,
    ⟨31, some 38, some (29, false), .fld 1 (.t 37)⟩,
    ⟨32, some 39, some (29, false), .load none (.t 38)⟩,
    ⟨33, some 40, some (29, false), .bin .neq (.t 32) (.t 39)⟩,
    ⟨34, some 41, none, .pick (.t 29) (.c (.bool true)) (.t 40)⟩,
    ⟨35, some 42, none, .mv (.t 41)⟩,
    ⟨36, some 43, some (42, false), .fld 3 (.t 4)⟩,
    ⟨37, some 44, some (42, false), .load none (.t 43)⟩,
    ⟨38, some 45, some (42, false), .len (.t 44)⟩,
    ⟨39, some 46, some (42, false), .bin .gtr (.t 45) (.c (.int .i64 6))⟩,
    ⟨40, some 47, none, .pick (.t 42) (.c (.bool true)) (.t 46)⟩] [2, 4, 47])
  (.cond (.t 47)
  (.seq (.reg [⟨0, some 6, none, .mv (.c (.bool false))⟩] [6])
  .ret)
  .skip))
  (.seq (.reg [⟨0, some 48, none, .fld 4 (.t 4)⟩,
    ⟨1, some 49, none, .load none (.t 48)⟩,
    ⟨2, some 50, none, .mv (.t 2)⟩,
    ⟨3, some 51, none, .bin .sub (.t 50) (.c (.int .i64 1))⟩,
    ⟨4, some 52, none, .call (.alone false true) 55 [.t 49, .c (.int .i64 (-1)), .t 51]⟩,
    ⟨5, some 53, none, .mv (.t 52)⟩,
    ⟨6, some 54, some (53, true), .fld 2 (.t 4)⟩,
    ⟨7, some 55, some (53, true), .load none (.t 54)⟩,
    ⟨8, some 56, some (53, true), .mv (.t 2)⟩,
    ⟨9, some 57, some (53, true), .call (.alone false true) 84 [.t 55, .t 56]⟩,
    ⟨10, some 58, none, .pick (.t 53) (.t 57) (.c (.bool false))⟩,
    ⟨11, some 59, none, .mv (.t 58)⟩,
    ⟨12, some 60, some (59, true), .fld 3 (.t 4)⟩,
    ⟨13, some 61, some (59, true), .load none (.t 60)⟩,
    ⟨14, some 62, some (59, true), .mv (.t 2)⟩,
    ⟨15, some 63, some (59, true), .call (.alone false true) 84 [.t 61, .t 62]⟩,
    ⟨16, some 64, none, .pick (.t 59) (.t 63) (.c (.bool false))⟩,
    ⟨17, some 65, none, .mv (.t 64)⟩,
    ⟨18, some 66, some (65, true), .fld 5 (.t 4)⟩,
    ⟨19, some 67, some (65, true), .load none (.t 66)⟩,
    ⟨20, some 68, some (65, true), .nt (.t 67)⟩,
    ⟨21, some 69, some (65, true), .mv (.t 68)⟩,
    ⟨22, some 70, some (69, false), .fld 4 (.t 4)⟩,
    ⟨23, some 71, some (69, false), .load none (.t 70)⟩,
    ⟨24, some 72, some (69, false), .bin .eql (.t 71) (.c (.int .i64 (-1)))⟩,
    ⟨25, some 73, some (69, false), .mv (.t 72)⟩,
    ⟨26, some 74, some (73, true), .fld 3 (.t 4)⟩,
    ⟨27, some 75, some (73, true), .load none (.t 74)⟩,
    ⟨28, some 76, some (73, true), .len (.t 75)⟩,
    ⟨29, some 77, some (73, true), .bin .eql (.t 76) (.c (.int .i64 0))⟩,
    ⟨30, some 78, some (69, false), .pick (.t 73) (.t 77) (.c (.bool false))⟩,
    ⟨31, some 79, some (65, true), .pick (.t 69) (.c (.bool true)) (.t 78)⟩,
    ⟨32, some 80, none, .pick (.t 65) (.t 79) (.c (.bool false))⟩,
    ⟨33, some 6, none, .mv (.t 80)⟩] [6])
  .ret)))⟩
def b_58_0 : AC := (.seq (.seq (.reg [⟨0, some 7, none, .mv (.t 4)⟩,
    ⟨1, some 8, none, .mv (.t 3)⟩,
    ⟨2, some 9, none, .len (.t 8)⟩,
    ⟨3, some 10, none, .bin .lss (.t 7) (.t 9)⟩] [1, 3, 4, 10])
  (.cond (.t 10)
  .skip
  (.exit 0)))
  (.seq (.block 1
  (.seq (.reg [⟨0, some 13, none, .fld 0 (.t 1)⟩,
    ⟨1, some 14, none, .load none (.t 13)⟩,
    ⟨2, some 15, none, .mv (.t 3)⟩,
    ⟨3, some 16, none, .mv (.t 4)⟩,
    ⟨4, some 17, none, .idx 1 (.t 15) (.t 16)⟩,
    ⟨5, some 18, none, .load none (.t 17)⟩,
    ⟨6, some 19, none, .idx 6 (.t 14) (.t 18)⟩,
    ⟨7, some 20, none, .fld 3 (.t 19)⟩,
    ⟨8, some 21, none, .load none (.t 20)⟩,
    ⟨9, some 22, none, .len (.t 21)⟩,
    ⟨10, some 23, none, .bin .geq (.t 22) (.c (.int .i64 6))⟩] [1, 3, 4, 23])
  (.cond (.t 23)
  (.seq (.reg [⟨0, some 2, none, .mv (.c (.bool false))⟩] [2])
  .ret)
  .skip)))
  (.reg [⟨0, some 11, none, .mv (.t 4)⟩,
    ⟨1, some 12, none, .bin .add (.t 11) (.c (.int .i64 1))⟩,
    ⟨2, some 4, none, .mv (.t 12)⟩] [1, 3, 4])))
def l_58_0 : AC := b_58_0
theorem u_58_0 {A : Nat → Option AFn} {mt : Nat → Nat → Option Nat} {fr : Fr} {G : AG} {S : List KF} : evS A mt l_58_0 fr G S = evS A mt b_58_0 fr G S := rfl
/-- spec.l11Wait -/
def c_58 : AFn := ⟨1, 24, [1], [.t 2],
  (.seq (.reg [⟨0, some 1, none, .boxP (.t 0)⟩,
    ⟨1, some 2, none, .mv (.c (.bool false))⟩] [1])
  (.seq (.reg [⟨0, some 5, none, .load (some 5) (.t 1)⟩,
    ⟨1, some 6, none, .call (.alone false true) 40 [.t 5]⟩,
    ⟨2, some 3, none, .mv (.t 6)⟩] [1, 3])
  (.seq (.seq (.reg [⟨0, some 4, none, .mv (.c (.int .i64 1))⟩] [1, 3, 4])
  (.block 0
  (.loop l_58_0)))
  (.seq (.reg [⟨0, some 2, none, .mv (.c (.bool true))⟩] [2])
  .ret))))⟩
/-- laws.szMethod -/
def c_60 : AFn := ⟨2, 12, [2], [.t 4],
  (.seq (.reg [⟨0, some 2, none, .boxP (.t 0)⟩,
    ⟨1, some 4, none, .mv (.c (.int .i64 0))⟩] [1, 2])
  (.seq (.reg [⟨0, some 5, none, .fld 2 (.t 2)⟩,
    ⟨1, some 6, none, .load none (.t 5)⟩,
    ⟨2, some 7, none, .mv (.t 1)⟩,
    ⟨3, some 8, none, .call (.alone false true) 86 [.t 6, .t 7]⟩,
    ⟨4, some 1, none, .mv (.t 8)⟩] [1])
  (.seq (.seq (.reg [⟨0, some 9, none, .mv (.t 1)⟩,
    ⟨1, some 10, none, .bin .lss (.t 9) (.c (.int .i64 0))⟩] [1, 10])
  (.cond (.t 10)
  (.seq (.reg [⟨0, some 4, none, .mv (.c (.int .i64 (-1)))⟩] [4])
  .ret)
  .skip))
  (.seq (.reg [⟨0, some 11, none, .mv (.t 1)⟩,
    ⟨1, some 4, none, .mv (.t 11)⟩] [4])
  .ret))))⟩
/-- laws.szCall -/
def c_61 : AFn := ⟨2, 18, [2], [.t 4],
  (.seq (.reg [⟨0, some 2, none, .boxP (.t 0)⟩,
    ⟨1, some 4, none, .mv (.c (.int .i64 0))⟩] [1, 2])
  (.seq (.reg [⟨0, some 5, none, .fld 2 (.t 2)⟩,
    ⟨1, some 6, none, .load none (.t 5)⟩,
    ⟨2, some 7, none, .mv (.t 1)⟩,
    ⟨3, some 8, none, .call (.alone false true) 30 [.t 6, .t 7]⟩,
    ⟨4, some 1, none, .mv (.t 8)⟩] [1, 2])
  (.seq (.seq (.reg [⟨0, some 9, none, .mv (.t 1)⟩,
    ⟨1, some 10, none, .bin .lss (.t 9) (.c (.int .i64 0))⟩] [1, 2, 10])
  (.cond (.t 10)
  (.seq (.reg [⟨0, some 4, none, .mv (.c (.int .i64 (-1)))⟩] [4])
  .ret)
  .skip))
  (.seq (.reg [⟨0, some 11, none, .fld 3 (.t 2)⟩,
    ⟨1, some 12, none, .load none (.t 11)⟩,
    ⟨2, some 13, none, .mv (.t 1)⟩,
    ⟨3, some 14, none, .call (.alone false true) 30 [.t 12, .t 13]⟩,
    ⟨4, some 1, none, .mv (.t 14)⟩] [1])
  (.seq (.seq (.reg [⟨0, some 15, none, .mv (.t 1)⟩,
    ⟨1, some 16, none, .bin .lss (.t 15) (.c (.int .i64 0))⟩] [1, 16])
  (.cond (.t 16)
  (.seq (.reg [⟨0, some 4, none, .mv (.c (.int .i64 (-1)))⟩] [4])
  .ret)
  .skip))
  (.seq (.reg [⟨0, some 17, none, .mv (.t 1)⟩,
    ⟨1, some 4, none, .mv (.t 17)⟩] [4])
  .ret))))))⟩
/-- laws.toMethod -/
def c_62 : AFn := ⟨1, 15, [1, 2, 3], [.c 2 (some 3)],
  (.seq (.reg [⟨0, some 1, none, .boxP (.t 0)⟩,
    ⟨1, some 2, none, .allocP [.int .i64 0, .int .i64 0, .nils]⟩] [1, 2])
  (.seq (.reg [⟨0, some 3, none, .allocP [.int .i64 0, .int .i64 0, .nils]⟩] [1, 2, 3])
  (.seq (.reg [⟨0, some 4, none, .fld 0 (.t 1)⟩,
    ⟨1, some 5, none, .load none (.t 4)⟩,
    ⟨2, some 6, none, .fld 0 (.t 3)⟩,
    ⟨3, none, none, .store 1 (.t 6) (.t 5)⟩] [1, 2, 3])
  (.seq (.reg [⟨0, some 7, none, .fld 1 (.t 1)⟩,
    ⟨1, some 8, none, .load none (.t 7)⟩,
    ⟨2, some 9, none, .fld 1 (.t 3)⟩,
    ⟨3, none, none, .store 1 (.t 9) (.t 8)⟩] [1, 2, 3])
  (.seq (.reg [⟨0, some 10, none, .fld 2 (.t 1)⟩,
    ⟨1, some 11, none, .load none (.t 10)⟩,
    ⟨2, some 12, none, .call (.alone false false) 87 [.t 11]⟩,
    ⟨3, some 13, none, .fld 2 (.t 3)⟩,
    ⟨4, none, none, .store 1 (.t 13) (.t 12)⟩] [2, 3])
  (.seq (.reg [⟨0, some 14, none, .load (some 3) (.t 3)⟩,
    ⟨1, none, none, .store 3 (.t 2) (.t 14)⟩] [2])
  .ret))))))⟩
/-- laws.toCall -/
def c_63 : AFn := ⟨1, 25, [1, 2, 3], [.c 2 (some 6)],
  (.seq (.reg [⟨0, some 1, none, .boxP (.t 0)⟩,
    ⟨1, some 2, none, .allocP [.int .i64 0, .int .i64 0, .nils, .nils, .int .i64 0, .bool false]⟩] [1, 2])
  (.seq (.reg [⟨0, some 3, none, .allocP [.int .i64 0, .int .i64 0, .nils, .nils, .int .i64 0, .bool false]⟩] [1, 2, 3])
  (.seq (.reg [⟨0, some 4, none, .fld 0 (.t 1)⟩,
    ⟨1, some 5, none, .load none (.t 4)⟩,
    ⟨2, some 6, none, .fld 0 (.t 3)⟩,
    ⟨3, none, none, .store 1 (.t 6) (.t 5)⟩] [1, 2, 3])
  (.seq (.reg [⟨0, some 7, none, .fld 1 (.t 1)⟩,
    ⟨1, some 8, none, .load none (.t 7)⟩,
    ⟨2, some 9, none, .fld 1 (.t 3)⟩,
    ⟨3, none, none, .store 1 (.t 9) (.t 8)⟩] [1, 2, 3])
  (.seq (.reg [⟨0, some 10, none, .fld 2 (.t 1)⟩,
    ⟨1, some 11, none, .load none (.t 10)⟩,
    ⟨2, some 12, none, .call (.alone false false) 34 [.t 11]⟩,
    ⟨3, some 13, none, .fld 2 (.t 3)⟩,
    ⟨4, none, none, .store 1 (.t 13) (.t 12)⟩] [1, 2, 3])
  (.seq (.reg [⟨0, some 14, none, .fld 3 (.t 1)⟩,
    ⟨1, some 15, none, .load none (.t 14)⟩,
    ⟨2, some 16, none, .call (.alone false false) 34 [.t 15]⟩,
    ⟨3, some 17, none, .fld 3 (.t 3)⟩,
    ⟨4, none, none, .store 1 (.t 17) (.t 16)⟩] [1, 2, 3])
  (.seq (.reg [⟨0, some 18, none, .fld 4 (.t 1)⟩,
    ⟨1, some 19, none, .load none (.t 18)⟩,
    ⟨2, some 20, none, .fld 4 (.t 3)⟩,
    ⟨3, none, none, .store 1 (.t 20) (.t 19)⟩] [1, 2, 3])
  (.seq (.reg [⟨0, some 21, none, .fld 5 (.t 1)⟩,
    ⟨1, some 22, none, .load none (.t 21)⟩,
    ⟨2, some 23, none, .fld 5 (.t 3)⟩,
    ⟨3, none, none, .store 1 (.t 23) (.t 22)⟩] [2, 3])
  (.seq (.reg [⟨0, some 24, none, .load (some 6) (.t 3)⟩,
    ⟨1, none, none, .store 6 (.t 2) (.t 24)⟩] [2])
  .ret)))))))))⟩
/-- laws.toVal -/
def c_64 : AFn := ⟨1, 11, [1, 2, 3], [.c 2 (some 2)],
  (.seq (.reg [⟨0, some 1, none, .boxP (.t 0)⟩,
    ⟨1, some 2, none, .allocP [.int .i64 0, .int .i64 0]⟩] [1, 2])
  (.seq (.reg [⟨0, some 3, none, .allocP [.int .i64 0, .int .i64 0]⟩] [1, 2, 3])
  (.seq (.reg [⟨0, some 4, none, .fld 0 (.t 1)⟩,
    ⟨1, some 5, none, .load none (.t 4)⟩,
    ⟨2, some 6, none, .fld 0 (.t 3)⟩,
    ⟨3, none, none, .store 1 (.t 6) (.t 5)⟩] [1, 2, 3])
  (.seq (.reg [⟨0, some 7, none, .fld 1 (.t 1)⟩,
    ⟨1, some 8, none, .load none (.t 7)⟩,
    ⟨2, some 9, none, .fld 1 (.t 3)⟩,
    ⟨3, none, none, .store 1 (.t 9) (.t 8)⟩] [2, 3])
  (.seq (.reg [⟨0, some 10, none, .load (some 2) (.t 3)⟩,
    ⟨1, none, none, .store 2 (.t 2) (.t 10)⟩] [2])
  .ret)))))⟩
/-- impl.ProgOk -/
def c_65 : AFn := ⟨1, 21, [], [.t 2],
  (.seq (.reg [⟨0, some 1, none, .boxH (.t 0)⟩,
    ⟨1, some 2, none, .mv (.c (.bool false))⟩] [1])
  (.seq (.seq (.reg [⟨0, some 3, none, .fld 0 (.t 1)⟩,
    ⟨1, some 4, none, .load none (.t 3)⟩,
    ⟨2, some 5, none, .len (.t 4)⟩,
    ⟨3, some 6, none, .call (.alone false true) 66 [.t 5, .c (.int .i64 1), .c (.int .i64 4)]⟩,
    ⟨4, some 7, none, .nt (.t 6)⟩,
    ⟨5, some 8, none, .mv (.t 7)⟩,
    ⟨6, some 9, some (8, false), .fld 0 (.t 1)⟩,
    ⟨7, some 10, some (8, false), .load none (.t 9)⟩,
    ⟨8, some 11, some (8, false), .idx 3 (.t 10) (.c (.int .i64 0))⟩,
    ⟨9, some 12, some (8, false), .fld 0 (.t 11)⟩,
    ⟨10, some 13, some (8, false), .load none (.t 12)⟩,
    ⟨11, some 14, some (8, false), .bin .neq (.t 13) (.c (.int .i64 0))⟩,
    ⟨12, some 15, none, .pick (.t 8) (.c (.bool true)) (.t 14)⟩] [1, 15])
  (.cond (.t 15)
  (.seq (.reg [⟨0, some 2, none, .mv (.c (.bool false))⟩] [2])
  .ret)
  .skip))
  (.seq (.reg [⟨0, some 16, none, .fld 0 (.t 1)⟩,
    ⟨1, some 17, none, .load none (.t 16)⟩,
    ⟨2, some 18, none, .mkf 89 [.t 1]⟩,
    ⟨3, some 19, none, .call (.alone true true) 88 [.t 17, .t 18]⟩,
    ⟨4, some 20, none, .nt (.t 19)⟩,
    ⟨5, some 2, none, .mv (.t 20)⟩] [2])
  .ret)))⟩
/-- impl.in -/
def c_66 : AFn := ⟨3, 15, [], [.t 6],
  (.seq (.reg [⟨0, some 6, none, .mv (.c (.bool false))⟩] [0, 1, 2])
  (.seq (.reg [⟨0, some 7, none, .mv (.t 0)⟩,
    ⟨1, some 8, none, .mv (.t 1)⟩,
    ⟨2, some 9, none, .bin .geq (.t 7) (.t 8)⟩,
    ⟨3, some 10, none, .mv (.t 9)⟩,
    ⟨4, some 11, some (10, true), .mv (.t 0)⟩,
    ⟨5, some 12, some (10, true), .mv (.t 2)⟩,
    ⟨6, some 13, some (10, true), .bin .leq (.t 11) (.t 12)⟩,
    ⟨7, some 14, none, .pick (.t 10) (.t 13) (.c (.bool false))⟩,
    ⟨8, some 6, none, .mv (.t 14)⟩] [6])
  .ret))⟩
/-- impl.told -/
def c_67 : AFn := ⟨5, 31, [], [.t 10],
  (.seq (.reg [⟨0, some 5, none, .boxH (.t 0)⟩,
    ⟨1, some 10, none, .mv (.c (.bool false))⟩] [1, 2, 3, 4, 5])
  (.seq (.reg [⟨0, some 12, none, .mkf 93 [.t 5]⟩,
    ⟨1, some 11, none, .mv (.t 12)⟩] [1, 2, 3, 4, 11])
  (.seq (.reg [⟨0, some 13, none, .mv (.t 1)⟩,
    ⟨1, some 14, none, .call (.alone false true) 66 [.t 13, .c (.int .i64 1), .c (.int .i64 30)]⟩,
    ⟨2, some 15, none, .mv (.t 14)⟩,
    ⟨3, some 16, some (15, true), .mv (.t 2)⟩,
    ⟨4, some 17, some (15, true), .mv (.t 11)⟩,
    ⟨5, some 18, some (15, true), .call (.alone true true) 95 [.t 16, .t 17]⟩,
    ⟨6, some 19, some (15, true), .nt (.t 18)⟩,
    ⟨7, some 20, none, .pick (.t 15) (.t 19) (.c (.bool false))⟩,
    ⟨8, some 21, none, .mv (.t 20)⟩,
    ⟨9, some 22, some (21, true), .mv (.t 3)⟩,
    ⟨10, some 23, some (21, true), .call (.alone false true) 66 [.t 22, .c (.int .i64 0), .c (.int .i64 3)]⟩,
    ⟨11, some 24, none, .pick (.t 21) (.t 23) (.c (.bool false))⟩,
    ⟨12, some 25, none, .mv (.t 24)⟩,
    ⟨13, some 26, some (25, true), .mv (.t 3)⟩,
    ⟨14, some 27, some (25, true), .bin .eql (.t 26) (.c (.int .i64 1))⟩,
    ⟨15, some 28, some (25, true), .mv (.t 4)⟩,
    ⟨16, some 29, some (25, true), .eqk .b false (.t 27) (.t 28)⟩,
    ⟨17, some 30, none, .pick (.t 25) (.t 29) (.c (.bool false))⟩,
    ⟨18, some 10, none, .mv (.t 30)⟩] [10])
  .ret)))⟩
/-- (impl.Call).formed -/
def c_68 : AFn := ⟨3, 82, [3, 4], [.t 6],
  (.seq (.reg [⟨0, some 3, none, .boxP (.t 0)⟩,
    ⟨1, some 4, none, .boxP (.t 1)⟩,
    ⟨2, some 6, none, .mv (.c (.bool false))⟩] [2, 3, 4])
  (.seq (.seq (.reg [⟨0, some 7, none, .fld 0 (.t 3)⟩,
    ⟨1, some 8, none, .load none (.t 7)⟩,
    ⟨2, some 9, none, .fld 0 (.t 4)⟩,
    ⟨3, some 10, none, .load none (.t 9)⟩,
    ⟨4, some 11, none, .len (.t 10)⟩,
    ⟨5, some 12, none, .bin .sub (.t 11) (.c (.int .i64 1))⟩,
    ⟨6, some 13, none, .call (.alone false true) 66 [.t 8, .c (.int .i64 0), .t 12]⟩,
    ⟨7, some 14, none, .nt (.t 13)⟩,
    ⟨8, some 15, none, .mv (.t 14)⟩,
    ⟨9, some 16, some (15, false), .fld 1 (.t 3)⟩,
    ⟨10, some 17, some (15, false), .load none (.t 16)⟩,
    ⟨11, some 18, some (15, false), .fld 0 (.t 4)⟩,
    ⟨12, some 19, some (15, false), .load none (.t 18)⟩,
    ⟨13, some 20, some (15, false), .fld 0 (.t 3)⟩,
    ⟨14, some 21, some (15, false), .load none (.t 20)⟩,
    ⟨15, some 22, some (15, false), .idx 3 (.t 19) (.t 21)⟩,
    ⟨16, some 23, some (15, false), .fld 2 (.t 22)⟩,
    ⟨17, some 24, some (15, false), .load none (.t 23)⟩,
    ⟨18, some 25, some (15, false), .len (.t 24)⟩,
    ⟨19, some 26, some (15, false), .call (.alone false true) 66 [.t 17, .c (.int .i64 0), .t 25]⟩,
    ⟨20, some 27, some (15, false), .nt (.t 26)⟩,
    ⟨21, some 28, none, .pick (.t 15) (.c (.bool true)) (.t 27)⟩,
    ⟨22, some 29, none, .mv (.t 28)⟩,
    ⟨23, some 30, some (29, false), .fld 2 (.t 3)⟩,
    ⟨24, some 31, some (29, false), .load none (.t 30)⟩,
    ⟨25, some 32, some (29, false), .len (.t 31)⟩,
    ⟨26, some 33, some (29, false), .fld 0 (.t 4)⟩,
    ⟨27, some 34, some (29, false), .load none (.t 33)⟩,
    ⟨28, some 35, some (29, false), .fld 0 (.t 3)⟩,
    ⟨29, some 36, some (29, false), .load none (.t 35)⟩,
    ⟨30, some 37, some (29, false), .idx 3 (.t 34) (.t 36)⟩,
    ⟨31, some 38, some (29, false), .fld 1 (.t 37)⟩,
    ⟨32, some 39, some (29, false), .load none (.t 38)⟩,
    ⟨33, some 40, some (29, false), .bin .neq (.t 32) (.t 39)⟩,
    ⟨34, some 41, none, .pick (.t 29) (.c (.bool true)) (.t 40)⟩] [2, 3, 41])
  (.cond (.t 41)
  (.seq (.reg [⟨0, some 6, none, .mv (.c (.bool false))⟩] [6])
  .ret)
  .skip))
  (.seq (.seq (.reg [⟨0, some 42, none, .fld 3 (.t 3)⟩,
    ⟨1, some 43, none, .load none (.t 42)⟩,
    ⟨2, some 44, none, .len (.t 43)⟩,
    ⟨3, some 45, none, .bin .gtr (.t 44) (.c (.int .i64 6))⟩,
    ⟨4, some 46, none, .mv (.t 45)⟩,
    ⟨5, some 47, some (46, false), .fld 2 (.t 3)⟩,
    ⟨6, some 48, some (46, false), .load none (.t 47)⟩,
    ⟨7, some 49, some (46, false), .mv (.t 2)⟩,
    ⟨8, some 50, some (46, false), .call (.alone false true) 96 [.t 48, .t 49]⟩,
    ⟨9, some 51, some (46, false), .nt (.t 50)⟩,
    ⟨10, some 52, none, .pick (.t 46) (.c (.bool true)) (.t 51)⟩,
    ⟨11, some 53, none, .mv (.t 52)⟩,
    ⟨12, some 54, some (53, false), .fld 3 (.t 3)⟩,
    ⟨13, some 55, some (53, false), .load none (.t 54)⟩,
    ⟨14, some 56, some (53, false), .mv (.t 2)⟩,
    ⟨15, some 57, some (53, false), .call (.alone false true) 96 [.t 55, .t 56]⟩,
    ⟨16, some 58, some (53, false), .nt (.t 57)⟩,
    ⟨17, some 59, none, .pick (.t 53) (.c (.bool true)) (.t 58)⟩,
    ⟨18, some 60, none, .mv (.t 59)⟩,
    ⟨19, some 61, some (60, false), .fld 4 (.t 3)⟩,
    ⟨20, some 62, some (60, false), .load none (.t 61)⟩,
    ⟨21, some 63, some (60, false), .mv (.t 2)⟩,
    ⟨22, some 64, some (60, false), .bin .sub (.t 63) (.c (.int .i64 1))⟩,
    ⟨23, some 65, some (60, false), .call (.alone false true) 66 [.t 62, .c (.int .i64 (-1)), .t 64]⟩,
    ⟨24, some 66, some (60, false), .nt (.t 65)⟩,
    ⟨25, some 67, none, .pick (.t 60) (.c (.bool true)) (.t 66)⟩] [3, 67])
  (.cond (.t 67)
  (.seq (.reg [⟨0, some 6, none, .mv (.c (.bool false))⟩] [6])
  .ret)
  .skip))
  (.seq (.reg [⟨0, some 68, none, .fld 5 (.t 3)⟩,
    ⟨1, some 69, none, .load none (.t 68)⟩,
    ⟨2, some 70, none, .nt (.t 69)⟩,
    ⟨3, some 71, none, .mv (.t 70)⟩,
    ⟨4, some 72, some (71, false), .fld 3 (.t 3)⟩,
    ⟨5, some 73, some (71, false), .load none (.t 72)⟩,
    ⟨6, some 74, some (71, false), .len (.t 73)⟩,
    ⟨7, some 75, some (71, false), .bin .eql (.t 74) (.c (.int .i64 0))⟩,
    ⟨8, some 76, some (71, false), .mv (.t 75)⟩,
    ⟨9, some 77, some (76, true), .fld 4 (.t 3)⟩,
    ⟨10, some 78, some (76, true), .load none (.t 77)⟩,
    ⟨11, some 79, some (76, true), .bin .eql (.t 78) (.c (.int .i64 (-1)))⟩,
    ⟨12, some 80, some (71, false), .pick (.t 76) (.t 79) (.c (.bool false))⟩,
    ⟨13, some 81, none, .pick (.t 71) (.c (.bool true)) (.t 80)⟩,
    ⟨14, some 6, none, .mv (.t 81)⟩] [6])
  .ret))))⟩
/-- laws.eqMethod -/
def c_69 : AFn := ⟨2, 21, [2, 3], [.t 4],
  (.seq (.reg [⟨0, some 2, none, .boxP (.t 0)⟩,
    ⟨1, some 3, none, .boxP (.t 1)⟩,
    ⟨2, some 4, none, .mv (.c (.bool false))⟩] [2, 3])
  (.seq (.seq (.reg [⟨0, some 5, none, .fld 0 (.t 2)⟩,
    ⟨1, some 6, none, .load none (.t 5)⟩,
    ⟨2, some 7, none, .fld 0 (.t 3)⟩,
    ⟨3, some 8, none, .load none (.t 7)⟩,
    ⟨4, some 9, none, .bin .neq (.t 6) (.t 8)⟩] [2, 3, 9])
  (.cond (.t 9)
  (.seq (.reg [⟨0, some 4, none, .mv (.c (.bool false))⟩] [4])
  .ret)
  .skip))
  (.seq (.seq (.reg [⟨0, some 10, none, .fld 1 (.t 2)⟩,
    ⟨1, some 11, none, .load none (.t 10)⟩,
    ⟨2, some 12, none, .fld 1 (.t 3)⟩,
    ⟨3, some 13, none, .load none (.t 12)⟩,
    ⟨4, some 14, none, .bin .neq (.t 11) (.t 13)⟩] [2, 3, 14])
  (.cond (.t 14)
  (.seq (.reg [⟨0, some 4, none, .mv (.c (.bool false))⟩] [4])
  .ret)
  .skip))
  (.seq (.seq (.reg [⟨0, some 15, none, .fld 2 (.t 2)⟩,
    ⟨1, some 16, none, .load none (.t 15)⟩,
    ⟨2, some 17, none, .fld 2 (.t 3)⟩,
    ⟨3, some 18, none, .load none (.t 17)⟩,
    ⟨4, some 19, none, .call (.alone false true) 97 [.t 16, .t 18]⟩,
    ⟨5, some 20, none, .nt (.t 19)⟩] [20])
  (.cond (.t 20)
  (.seq (.reg [⟨0, some 4, none, .mv (.c (.bool false))⟩] [4])
  .ret)
  .skip))
  (.seq (.reg [⟨0, some 4, none, .mv (.c (.bool true))⟩] [4])
  .ret)))))⟩
/-- laws.eqCall -/
def c_70 : AFn := ⟨2, 37, [2, 3], [.t 4],
  (.seq (.reg [⟨0, some 2, none, .boxP (.t 0)⟩,
    ⟨1, some 3, none, .boxP (.t 1)⟩,
    ⟨2, some 4, none, .mv (.c (.bool false))⟩] [2, 3])
  (.seq (.seq (.reg [⟨0, some 5, none, .fld 0 (.t 2)⟩,
    ⟨1, some 6, none, .load none (.t 5)⟩,
    ⟨2, some 7, none, .fld 0 (.t 3)⟩,
    ⟨3, some 8, none, .load none (.t 7)⟩,
    ⟨4, some 9, none, .bin .neq (.t 6) (.t 8)⟩] [2, 3, 9])
  (.cond (.t 9)
  (.seq (.reg [⟨0, some 4, none, .mv (.c (.bool false))⟩] [4])
  .ret)
  .skip))
  (.seq (.seq (.reg [⟨0, some 10, none, .fld 1 (.t 2)⟩,
    ⟨1, some 11, none, .load none (.t 10)⟩,
    ⟨2, some 12, none, .fld 1 (.t 3)⟩,
    ⟨3, some 13, none, .load none (.t 12)⟩,
    ⟨4, some 14, none, .bin .neq (.t 11) (.t 13)⟩] [2, 3, 14])
  (.cond (.t 14)
  (.seq (.reg [⟨0, some 4, none, .mv (.c (.bool false))⟩] [4])
  .ret)
  .skip))
  (.seq (.seq (.reg [⟨0, some 15, none, .fld 2 (.t 2)⟩,
    ⟨1, some 16, none, .load none (.t 15)⟩,
    ⟨2, some 17, none, .fld 2 (.t 3)⟩,
    ⟨3, some 18, none, .load none (.t 17)⟩,
    ⟨4, some 19, none, .call (.alone false true) 39 [.t 16, .t 18]⟩,
    ⟨5, some 20, none, .nt (.t 19)⟩] [2, 3, 20])
  (.cond (.t 20)
  (.seq (.reg [⟨0, some 4, none, .mv (.c (.bool false))⟩] [4])
  .ret)
  .skip))
  (.seq (.seq (.reg [⟨0, some 21, none, .fld 3 (.t 2)⟩,
    ⟨1, some 22, none, .load none (.t 21)⟩,
    ⟨2, some 23, none, .fld 3 (.t 3)⟩,
    ⟨3, some 24, none, .load none (.t 23)⟩,
    ⟨4, some 25, none, .call (.alone false true) 39 [.t 22, .t 24]⟩,
    ⟨5, some 26, none, .nt (.t 25)⟩] [2, 3, 26])
  (.cond (.t 26)
  (.seq (.reg [⟨0, some 4, none, .mv (.c (.bool false))⟩] [4])
  .ret)
  .skip))
  (.seq (.seq (.reg [⟨0, some 27, none, .fld 4 (.t 2)⟩,
    ⟨1, some 28, none, .load none (.t 27)⟩,
    ⟨2, some 29, none, .fld 4 (.t 3)⟩,
    ⟨3, some 30, none, .load none (.t 29)⟩,
    ⟨4, some 31, none, .bin .neq (.t 28) (.t 30)⟩] [2, 3, 31])
  (.cond (.t 31)
  (.seq (.reg [⟨0, some 4, none, .mv (.c (.bool false))⟩] [4])
  .ret)
  .skip))
  (.seq (.seq (.reg [⟨0, some 32, none, .fld 5 (.t 2)⟩,
    ⟨1, some 33, none, .load none (.t 32)⟩,
    ⟨2, some 34, none, .fld 5 (.t 3)⟩,
    ⟨3, some 35, none, .load none (.t 34)⟩,
    ⟨4, some 36, none, .eqk .b true (.t 33) (.t 35)⟩] [36])
  (.cond (.t 36)
  (.seq (.reg [⟨0, some 4, none, .mv (.c (.bool false))⟩] [4])
  .ret)
  .skip))
  (.seq (.reg [⟨0, some 4, none, .mv (.c (.bool true))⟩] [4])
  .ret))))))))⟩
/-- laws.eqVal -/
def c_71 : AFn := ⟨2, 15, [2, 3], [.t 4],
  (.seq (.reg [⟨0, some 2, none, .boxP (.t 0)⟩,
    ⟨1, some 3, none, .boxP (.t 1)⟩,
    ⟨2, some 4, none, .mv (.c (.bool false))⟩] [2, 3])
  (.seq (.seq (.reg [⟨0, some 5, none, .fld 0 (.t 2)⟩,
    ⟨1, some 6, none, .load none (.t 5)⟩,
    ⟨2, some 7, none, .fld 0 (.t 3)⟩,
    ⟨3, some 8, none, .load none (.t 7)⟩,
    ⟨4, some 9, none, .bin .neq (.t 6) (.t 8)⟩] [2, 3, 9])
  (.cond (.t 9)
  (.seq (.reg [⟨0, some 4, none, .mv (.c (.bool false))⟩] [4])
  .ret)
  .skip))
  (.seq (.seq (.reg [⟨0, some 10, none, .fld 1 (.t 2)⟩,
    ⟨1, some 11, none, .load none (.t 10)⟩,
    ⟨2, some 12, none, .fld 1 (.t 3)⟩,
    ⟨3, some 13, none, .load none (.t 12)⟩,
    ⟨4, some 14, none, .bin .neq (.t 11) (.t 13)⟩] [14])
  (.cond (.t 14)
  (.seq (.reg [⟨0, some 4, none, .mv (.c (.bool false))⟩] [4])
  .ret)
  .skip))
  (.seq (.reg [⟨0, some 4, none, .mv (.c (.bool true))⟩] [4])
  .ret))))⟩
def b_72_0 : AC := (.seq (.seq (.reg [⟨0, some 6, none, .mv (.t 5)⟩,
    ⟨1, some 7, none, .mv (.t 0)⟩,
    ⟨2, some 8, none, .len (.t 7)⟩,
    ⟨3, some 9, none, .bin .lss (.t 6) (.t 8)⟩] [0, 1, 5, 9])
  (.cond (.t 9)
  .skip
  (.exit 0)))
  (.seq (.block 1
  (.seq (.reg [⟨0, some 12, none, .mv (.t 0)⟩,
    ⟨1, some 13, none, .mv (.t 5)⟩,
    ⟨2, some 14, none, .mv (.t 1)⟩,
    ⟨3, some 15, none, .idx 2 (.t 12) (.t 13)⟩,
    ⟨4, some 16, none, .fld 0 (.t 15)⟩,
    ⟨5, none, none, .store 1 (.t 16) (.t 14)⟩] [0, 1, 5])
  (.seq (.reg [⟨0, some 17, none, .mv (.t 1)⟩,
    ⟨1, some 18, none, .bin .add (.t 17) (.c (.int .i64 1))⟩,
    ⟨2, some 1, none, .mv (.t 18)⟩] [0, 1, 5])
  (.seq (.reg [⟨0, some 19, none, .mv (.t 0)⟩,
    ⟨1, some 20, none, .mv (.t 5)⟩,
    ⟨2, some 21, none, .mv (.t 1)⟩,
    ⟨3, some 22, none, .idx 2 (.t 19) (.t 20)⟩,
    ⟨4, some 23, none, .fld 1 (.t 22)⟩,
    ⟨5, none, none, .store 1 (.t 23) (.t 21)⟩] [0, 1, 5])
  (.reg [⟨0, some 24, none, .mv (.t 1)⟩,
    ⟨1, some 25, none, .bin .add (.t 24) (.c (.int .i64 1))⟩,
    ⟨2, some 1, none, .mv (.t 25)⟩] [0, 1, 5])))))
  (.reg [⟨0, some 10, none, .mv (.t 5)⟩,
    ⟨1, some 11, none, .bin .add (.t 10) (.c (.int .i64 1))⟩,
    ⟨2, some 5, none, .mv (.t 11)⟩] [0, 1, 5])))
def l_72_0 : AC := b_72_0
theorem u_72_0 {A : Nat → Option AFn} {mt : Nat → Nat → Option Nat} {fr : Fr} {G : AG} {S : List KF} : evS A mt l_72_0 fr G S = evS A mt b_72_0 fr G S := rfl
/-- laws.markOpS -/
def c_72 : AFn := ⟨2, 27, [], [.t 4],
  (.seq (.reg [⟨0, some 4, none, .mv (.c (.int .i64 0))⟩] [0, 1])
  (.seq (.seq (.reg [⟨0, some 5, none, .mv (.c (.int .i64 0))⟩] [0, 1, 5])
  (.block 0
  (.loop l_72_0)))
  (.seq (.reg [⟨0, some 26, none, .mv (.t 1)⟩,
    ⟨1, some 4, none, .mv (.t 26)⟩] [4])
  .ret)))⟩
def b_82_0 : AC := (.seq (.seq (.reg [⟨0, some 24, none, .mv (.t 5)⟩,
    ⟨1, some 25, none, .fld 2 (.t 3)⟩,
    ⟨2, some 26, none, .load none (.t 25)⟩,
    ⟨3, some 27, none, .len (.t 26)⟩,
    ⟨4, some 28, none, .bin .lss (.t 24) (.t 27)⟩] [2, 3, 5, 28])
  (.cond (.t 28)
  .skip
  (.exit 0)))
  (.seq (.block 1
  (.seq (.reg [⟨0, some 31, none, .load (some 1) (.t 2)⟩,
    ⟨1, some 32, none, .load (some 3) (.t 3)⟩,
    ⟨2, some 33, none, .fld 2 (.t 3)⟩,
    ⟨3, some 34, none, .load none (.t 33)⟩,
    ⟨4, some 35, none, .mv (.t 5)⟩,
    ⟨5, some 36, none, .idx 2 (.t 34) (.t 35)⟩,
    ⟨6, some 37, none, .load (some 2) (.t 36)⟩,
    ⟨7, some 38, none, .call (.alone false true) 106 [.t 31, .t 32, .t 37]⟩,
    ⟨8, some 39, none, .nt (.t 38)⟩] [2, 3, 5, 39])
  (.cond (.t 39)
  (.seq (.reg [⟨0, some 4, none, .mv (.c (.bool false))⟩] [4])
  .ret)
  .skip)))
  (.reg [⟨0, some 29, none, .mv (.t 5)⟩,
    ⟨1, some 30, none, .bin .add (.t 29) (.c (.int .i64 1))⟩,
    ⟨2, some 5, none, .mv (.t 30)⟩] [2, 3, 5])))
def l_82_0 : AC := b_82_0
theorem u_82_0 {A : Nat → Option AFn} {mt : Nat → Nat → Option Nat} {fr : Fr} {G : AG} {S : List KF} : evS A mt l_82_0 fr G S = evS A mt b_82_0 fr G S := rfl
/-- spec.l1Method -/
def c_82 : AFn := ⟨2, 40, [2, 3], [.t 4],
  (.seq (.reg [⟨0, some 2, none, .boxP (.t 0)⟩,
    ⟨1, some 3, none, .boxP (.t 1)⟩,
    ⟨2, some 4, none, .mv (.c (.bool false))⟩] [2, 3])
  (.seq (.seq (.reg [⟨0, some 6, none, .fld 0 (.t 3)⟩,
    ⟨1, some 7, none, .load none (.t 6)⟩,
    ⟨2, some 8, none, .call (.alone false true) 55 [.t 7, .c (.int .i64 0), .c (.int .i64 2)]⟩,
    ⟨3, some 9, none, .nt (.t 8)⟩,
    ⟨4, some 10, none, .mv (.t 9)⟩,
    ⟨5, some 11, some (10, false), .fld 1 (.t 3)⟩,
    ⟨6, some 12, some (10, false), .load none (.t 11)⟩,
    ⟨7, some 13, some (10, false), .fld 0 (.t 3)⟩,
    ⟨8, some 14, some (10, false), .load none (.t 13)⟩,
    ⟨9, some 15, some (10, false), .call (.alone false true) 55 [.t 12, .t 14, .c (.int .i64 4)]⟩,
    ⟨10, some 16, some (10, false), .nt (.t 15)⟩,
    ⟨11, some 17, none, .pick (.t 10) (.c (.bool true)) (.t 16)⟩,
    ⟨12, some 18, none, .mv (.t 17)⟩,
    ⟨13, some 19, some (18, false), .fld 2 (.t 3)⟩,
    ⟨14, some 20, some (18, false), .load none (.t 19)⟩,
    ⟨15, some 21, some (18, false), .len (.t 20)⟩,
    ⟨16, some 22, some (18, false), .bin .gtr (.t 21) (.c (.int .i64 14))⟩,
    ⟨17, some 23, none, .pick (.t 18) (.c (.bool true)) (.t 22)⟩] [2, 3, 23])
  (.cond (.t 23)
  (.seq (.reg [⟨0, some 4, none, .mv (.c (.bool false))⟩] [4])
  .ret)
  .skip))
  (.seq (.seq (.reg [⟨0, some 5, none, .mv (.c (.int .i64 0))⟩] [2, 3, 5])
  (.block 0
  (.loop l_82_0)))
  (.seq (.reg [⟨0, some 4, none, .mv (.c (.bool true))⟩] [4])
  .ret))))⟩
/-- spec.l11Val -/
def c_83 : AFn := ⟨2, 24, [2], [.t 4],
  (.seq (.reg [⟨0, some 2, none, .boxP (.t 0)⟩,
    ⟨1, some 4, none, .mv (.c (.bool false))⟩] [1, 2])
  (.seq (.seq (.reg [⟨0, some 5, none, .fld 0 (.t 2)⟩,
    ⟨1, some 6, none, .load none (.t 5)⟩] [1, 2, 6])
  (.block 0
  (.seq (.reg [⟨0, some 8, none, .bin .eql (.t 6) (.c (.int .i64 0))⟩,
    ⟨1, some 7, none, .mv (.t 8)⟩] [1, 2, 6, 7])
  (.cond (.t 7)
  (.seq (.reg [⟨0, some 9, none, .fld 1 (.t 2)⟩,
    ⟨1, some 10, none, .load none (.t 9)⟩,
    ⟨2, some 11, none, .bin .eql (.t 10) (.c (.int .i64 0))⟩,
    ⟨3, some 4, none, .mv (.t 11)⟩] [4])
  .ret)
  (.seq (.reg [⟨0, some 13, none, .bin .eql (.t 6) (.c (.int .i64 1))⟩,
    ⟨1, some 12, none, .mv (.t 13)⟩] [1, 2, 6, 12])
  (.cond (.t 12)
  (.seq (.reg [⟨0, some 14, none, .fld 1 (.t 2)⟩,
    ⟨1, some 15, none, .load none (.t 14)⟩,
    ⟨2, some 16, none, .call (.alone false true) 55 [.t 15, .c (.int .i64 0), .c (.int .i64 999)]⟩,
    ⟨3, some 4, none, .mv (.t 16)⟩] [4])
  .ret)
  (.seq (.reg [⟨0, some 18, none, .bin .eql (.t 6) (.c (.int .i64 2))⟩,
    ⟨1, some 17, none, .mv (.t 18)⟩] [1, 2, 17])
  (.cond (.t 17)
  (.seq (.reg [⟨0, some 19, none, .fld 1 (.t 2)⟩,
    ⟨1, some 20, none, .load none (.t 19)⟩,
    ⟨2, some 21, none, .mv (.t 1)⟩,
    ⟨3, some 22, none, .bin .sub (.t 21) (.c (.int .i64 1))⟩,
    ⟨4, some 23, none, .call (.alone false true) 55 [.t 20, .c (.int .i64 0), .t 22]⟩,
    ⟨5, some 4, none, .mv (.t 23)⟩] [4])
  .ret)
  .skip))))))))
  (.seq (.reg [⟨0, some 4, none, .mv (.c (.bool false))⟩] [4])
  .ret)))⟩
def b_84_0 : AC := (.seq (.seq (.reg [⟨0, some 6, none, .mv (.t 5)⟩,
    ⟨1, some 7, none, .mv (.t 0)⟩,
    ⟨2, some 8, none, .len (.t 7)⟩,
    ⟨3, some 9, none, .bin .lss (.t 6) (.t 8)⟩] [0, 1, 5, 9])
  (.cond (.t 9)
  .skip
  (.exit 0)))
  (.seq (.block 1
  (.seq (.reg [⟨0, some 12, none, .mv (.t 0)⟩,
    ⟨1, some 13, none, .mv (.t 5)⟩,
    ⟨2, some 14, none, .idx 2 (.t 12) (.t 13)⟩,
    ⟨3, some 15, none, .load (some 2) (.t 14)⟩,
    ⟨4, some 16, none, .mv (.t 1)⟩,
    ⟨5, some 17, none, .call (.alone false true) 83 [.t 15, .t 16]⟩,
    ⟨6, some 18, none, .nt (.t 17)⟩] [0, 1, 5, 18])
  (.cond (.t 18)
  (.seq (.reg [⟨0, some 4, none, .mv (.c (.bool false))⟩] [4])
  .ret)
  .skip)))
  (.reg [⟨0, some 10, none, .mv (.t 5)⟩,
    ⟨1, some 11, none, .bin .add (.t 10) (.c (.int .i64 1))⟩,
    ⟨2, some 5, none, .mv (.t 11)⟩] [0, 1, 5])))
def l_84_0 : AC := b_84_0
theorem u_84_0 {A : Nat → Option AFn} {mt : Nat → Nat → Option Nat} {fr : Fr} {G : AG} {S : List KF} : evS A mt l_84_0 fr G S = evS A mt b_84_0 fr G S := rfl
/-- spec.l11Vals -/
def c_84 : AFn := ⟨2, 19, [], [.t 4],
  (.seq (.reg [⟨0, some 4, none, .mv (.c (.bool false))⟩] [0, 1])
  (.seq (.seq (.reg [⟨0, some 5, none, .mv (.c (.int .i64 0))⟩] [0, 1, 5])
  (.block 0
  (.loop l_84_0)))
  (.seq (.reg [⟨0, some 4, none, .mv (.c (.bool true))⟩] [4])
  .ret)))⟩
/-- laws.szOpS -/
def c_86 : AFn := ⟨2, 12, [], [.t 4],
  (.seq (.reg [⟨0, some 4, none, .mv (.c (.int .i64 0))⟩] [0, 1])
  (.seq (.reg [⟨0, some 5, none, .mv (.t 1)⟩,
    ⟨1, some 6, none, .mv (.t 0)⟩,
    ⟨2, some 7, none, .len (.t 6)⟩,
    ⟨3, some 8, none, .bin .sub (.t 5) (.t 7)⟩,
    ⟨4, some 1, none, .mv (.t 8)⟩] [1])
  (.seq (.seq (.reg [⟨0, some 9, none, .mv (.t 1)⟩,
    ⟨1, some 10, none, .bin .lss (.t 9) (.c (.int .i64 0))⟩] [1, 10])
  (.cond (.t 10)
  (.seq (.reg [⟨0, some 4, none, .mv (.c (.int .i64 (-1)))⟩] [4])
  .ret)
  .skip))
  (.seq (.reg [⟨0, some 11, none, .mv (.t 1)⟩,
    ⟨1, some 4, none, .mv (.t 11)⟩] [4])
  .ret))))⟩
def b_87_0 : AC := (.seq (.seq (.reg [⟨0, some 8, none, .mv (.t 4)⟩,
    ⟨1, some 9, none, .mv (.t 0)⟩,
    ⟨2, some 10, none, .len (.t 9)⟩,
    ⟨3, some 11, none, .bin .lss (.t 8) (.t 10)⟩] [0, 3, 4, 11])
  (.cond (.t 11)
  .skip
  (.exit 0)))
  (.seq (.block 1
  (.reg [⟨0, some 14, none, .mv (.t 3)⟩,
    ⟨1, some 15, none, .mv (.t 4)⟩,
    ⟨2, some 16, none, .mv (.t 0)⟩,
    ⟨3, some 17, none, .mv (.t 4)⟩,
    ⟨4, some 18, none, .idx 2 (.t 16) (.t 17)⟩,
    ⟨5, some 19, none, .load (some 2) (.t 18)⟩,
    ⟨6, some 20, none, .call (.alone false false) 107 [.t 19]⟩,
    ⟨7, some 21, none, .idx 2 (.t 14) (.t 15)⟩,
    ⟨8, none, none, .store 2 (.t 21) (.t 20)⟩] [0, 3, 4]))
  (.reg [⟨0, some 12, none, .mv (.t 4)⟩,
    ⟨1, some 13, none, .bin .add (.t 12) (.c (.int .i64 1))⟩,
    ⟨2, some 4, none, .mv (.t 13)⟩] [0, 3, 4])))
def l_87_0 : AC := b_87_0
theorem u_87_0 {A : Nat → Option AFn} {mt : Nat → Nat → Option Nat} {fr : Fr} {G : AG} {S : List KF} : evS A mt l_87_0 fr G S = evS A mt b_87_0 fr G S := rfl
/-- laws.toOpS -/
def c_87 : AFn := ⟨1, 23, [], [.t 2],
  (.seq (.reg [⟨0, some 2, none, .mv (.c (.nils))⟩] [0])
  (.seq (.reg [⟨0, some 5, none, .mv (.t 0)⟩,
    ⟨1, some 6, none, .len (.t 5)⟩,
    ⟨2, some 7, none, .mks [.int .i64 0, .int .i64 0] 16 (.t 6)⟩,
    ⟨3, some 3, none, .mv (.t 7)⟩] [0, 3])
  (.seq (.seq (.reg [⟨0, some 4, none, .mv (.c (.int .i64 0))⟩] [0, 3, 4])
  (.block 0
  (.loop l_87_0)))
  (.seq (.reg [⟨0, some 22, none, .mv (.t 3)⟩,
    ⟨1, some 2, none, .mv (.t 22)⟩] [2])
  .ret))))⟩
/-- slices.ContainsFunc[[]impl.Method,impl.Method] -/
def c_88 : AFn := ⟨2, 9, [], [.t 4],
  (.seq (.reg [⟨0, some 4, none, .mv (.c (.bool false))⟩] [0, 1])
  (.seq (.reg [⟨0, some 5, none, .mv (.t 0)⟩,
    ⟨1, some 6, none, .mv (.t 1)⟩,
    ⟨2, some 7, none, .call (.alone false true) 108 [.t 5, .t 6]⟩,
    ⟨3, some 8, none, .bin .geq (.t 7) (.c (.int .i64 0))⟩,
    ⟨4, some 4, none, .mv (.t 8)⟩] [4])
  .ret))⟩
/-- impl.ProgOk$1 -/
def c_89 : AFn := ⟨2, 26, [], [.t 3],
  (.seq (.reg [⟨0, some 2, none, .boxH (.t 0)⟩,
    ⟨1, some 3, none, .mv (.c (.bool false))⟩] [1, 2])
  (.seq (.seq (.reg [⟨0, some 4, none, .fld 0 (.t 2)⟩,
    ⟨1, some 5, none, .load none (.t 4)⟩,
    ⟨2, some 6, none, .call (.alone false true) 66 [.t 5, .c (.int .i64 0), .c (.int .i64 2)]⟩,
    ⟨3, some 7, none, .nt (.t 6)⟩,
    ⟨4, some 8, none, .mv (.t 7)⟩,
    ⟨5, some 9, some (8, false), .fld 1 (.t 2)⟩,
    ⟨6, some 10, some (8, false), .load none (.t 9)⟩,
    ⟨7, some 11, some (8, false), .fld 0 (.t 2)⟩,
    ⟨8, some 12, some (8, false), .load none (.t 11)⟩,
    ⟨9, some 13, some (8, false), .call (.alone false true) 66 [.t 10, .t 12, .c (.int .i64 4)]⟩,
    ⟨10, some 14, some (8, false), .nt (.t 13)⟩,
    ⟨11, some 15, none, .pick (.t 8) (.c (.bool true)) (.t 14)⟩,
    ⟨12, some 16, none, .mv (.t 15)⟩,
    ⟨13, some 17, some (16, false), .fld 2 (.t 2)⟩,
    ⟨14, some 18, some (16, false), .load none (.t 17)⟩,
    ⟨15, some 19, some (16, false), .len (.t 18)⟩,
    ⟨16, some 20, some (16, false), .bin .gtr (.t 19) (.c (.int .i64 14))⟩,
    ⟨17, some 21, none, .pick (.t 16) (.c (.bool true)) (.t 20)⟩] [1, 2, 21])
  (.cond (.t 21)
  (.seq (.reg [⟨0, some 3, none, .mv (.c (.bool true))⟩] [3])
  .ret)
  .skip))
  (.seq (.reg [⟨0, some 22, none, .fld 2 (.t 2)⟩,
    ⟨1, some 23, none, .load none (.t 22)⟩,
    ⟨2, some 24, none, .mkf 91 [.t 1, .t 2]⟩,
    ⟨3, some 25, none, .call (.alone true true) 90 [.t 23, .t 24]⟩,
    ⟨4, some 3, none, .mv (.t 25)⟩] [3])
  .ret)))⟩
/-- slices.ContainsFunc[[]impl.Op,impl.Op] -/
def c_90 : AFn := ⟨2, 9, [], [.t 4],
  (.seq (.reg [⟨0, some 4, none, .mv (.c (.bool false))⟩] [0, 1])
  (.seq (.reg [⟨0, some 5, none, .mv (.t 0)⟩,
    ⟨1, some 6, none, .mv (.t 1)⟩,
    ⟨2, some 7, none, .call (.alone false true) 109 [.t 5, .t 6]⟩,
    ⟨3, some 8, none, .bin .geq (.t 7) (.c (.int .i64 0))⟩,
    ⟨4, some 4, none, .mv (.t 8)⟩] [4])
  .ret))⟩
/-- impl.ProgOk$1$1 -/
def c_91 : AFn := ⟨3, 10, [3], [.t 4],
  (.seq (.reg [⟨0, some 3, none, .boxP (.t 0)⟩,
    ⟨1, some 4, none, .mv (.c (.bool false))⟩] [1, 2, 3])
  (.seq (.reg [⟨0, some 5, none, .load (some 2) (.t 3)⟩,
    ⟨1, some 6, none, .load (some 1) (.t 1)⟩,
    ⟨2, some 7, none, .load (some 3) (.t 2)⟩,
    ⟨3, some 8, none, .call (.alone false true) 92 [.t 5, .t 6, .t 7]⟩,
    ⟨4, some 9, none, .nt (.t 8)⟩,
    ⟨5, some 4, none, .mv (.t 9)⟩] [4])
  .ret))⟩
/-- (impl.Op).ok -/
def c_92 : AFn := ⟨3, 37, [3, 4, 5, 7], [.t 6],
  (.seq (.reg [⟨0, some 3, none, .boxP (.t 0)⟩,
    ⟨1, some 4, none, .boxP (.t 1)⟩,
    ⟨2, some 5, none, .boxP (.t 2)⟩,
    ⟨3, some 6, none, .mv (.c (.bool false))⟩] [3, 4, 5])
  (.seq (.reg [⟨0, some 10, none, .fld 0 (.t 3)⟩,
    ⟨1, some 11, none, .load none (.t 10)⟩,
    ⟨2, some 12, none, .call (.alone false true) 110 [.t 11]⟩,
    ⟨3, some 9, none, .mv (.t 12)⟩,
    ⟨4, some 13, none, .ext (.t 9) 0⟩,
    ⟨5, some 14, none, .ext (.t 9) 1⟩,
    ⟨6, some 7, none, .allocP [.str ⟨#[]⟩, .int .i64 0, .int .i64 0, .nils, .nilf]⟩,
    ⟨7, none, none, .store 5 (.t 7) (.t 13)⟩,
    ⟨8, some 8, none, .mv (.t 14)⟩] [3, 4, 5, 7, 8])
  (.seq (.seq (.reg [⟨0, some 15, none, .mv (.t 8)⟩,
    ⟨1, some 16, none, .nt (.t 15)⟩,
    ⟨2, some 17, none, .mv (.t 16)⟩,
    ⟨3, some 18, some (17, false), .fld 4 (.t 7)⟩,
    ⟨4, some 19, some (17, false), .load none (.t 18)⟩,
    ⟨5, some 20, some (17, false), .eqk .f false (.t 19) (.c (.nilf))⟩,
    ⟨6, some 21, none, .pick (.t 17) (.c (.bool true)) (.t 20)⟩] [3, 4, 5, 7, 8, 21])
  (.cond (.t 21)
  (.seq (.reg [⟨0, some 22, none, .mv (.t 8)⟩,
    ⟨1, some 23, none, .mv (.t 22)⟩,
    ⟨2, some 24, some (23, true), .fld 1 (.t 3)⟩,
    ⟨3, some 25, some (23, true), .load none (.t 24)⟩,
    ⟨4, some 26, some (23, true), .bin .eql (.t 25) (.c (.int .i64 0))⟩,
    ⟨5, some 27, none, .pick (.t 23) (.t 26) (.c (.bool false))⟩,
    ⟨6, some 6, none, .mv (.t 27)⟩] [6])
  .ret)
  .skip))
  (.seq (.reg [⟨0, some 28, none, .fld 1 (.t 3)⟩,
    ⟨1, some 29, none, .load none (.t 28)⟩,
    ⟨2, some 30, none, .fld 4 (.t 7)⟩,
    ⟨3, some 31, none, .load none (.t 30)⟩,
    ⟨4, some 32, none, .load (some 1) (.t 4)⟩,
    ⟨5, some 33, none, .load (some 3) (.t 5)⟩,
    ⟨6, some 34, none, .callv (.alone false true) (.t 31) [.t 32, .t 33]⟩,
    ⟨1, none, none, .again 29 (.load none (.t 28))⟩,
    ⟨7, some 35, none, .bin .sub (.t 34) (.c (.int .i64 1))⟩,
    ⟨8, some 36, none, .call (.alone false true) 66 [.t 29, .c (.int .i64 0), .t 35]⟩,
    ⟨9, some 6, none, .mv (.t 36)⟩] [6])
  .ret))))⟩
/-- impl.told$1 -/
def c_93 : AFn := ⟨2, 10, [2], [.t 3],
  (.seq (.reg [⟨0, some 2, none, .boxP (.t 0)⟩,
    ⟨1, some 3, none, .mv (.c (.bool false))⟩] [1, 2])
  (.seq (.reg [⟨0, some 4, none, .load (some 2) (.t 2)⟩,
    ⟨1, some 5, none, .fld 0 (.t 1)⟩,
    ⟨2, some 6, none, .load none (.t 5)⟩,
    ⟨3, some 7, none, .len (.t 6)⟩,
    ⟨4, some 8, none, .call (.alone false true) 94 [.t 4, .t 7]⟩,
    ⟨5, some 9, none, .nt (.t 8)⟩,
    ⟨6, some 3, none, .mv (.t 9)⟩] [3])
  .ret))⟩
/-- (impl.Val).ok -/
def c_94 : AFn := ⟨2, 24, [2], [.t 4],
  (.seq (.reg [⟨0, some 2, none, .boxP (.t 0)⟩,
    ⟨1, some 4, none, .mv (.c (.bool false))⟩] [1, 2])
  (.seq (.seq (.reg [⟨0, some 5, none, .fld 0 (.t 2)⟩,
    ⟨1, some 6, none, .load none (.t 5)⟩] [1, 2, 6])
  (.block 0
  (.seq (.reg [⟨0, some 8, none, .bin .eql (.t 6) (.c (.int .i64 0))⟩,
    ⟨1, some 7, none, .mv (.t 8)⟩] [1, 2, 6, 7])
  (.cond (.t 7)
  (.seq (.reg [⟨0, some 9, none, .fld 1 (.t 2)⟩,
    ⟨1, some 10, none, .load none (.t 9)⟩,
    ⟨2, some 11, none, .bin .eql (.t 10) (.c (.int .i64 0))⟩,
    ⟨3, some 4, none, .mv (.t 11)⟩] [4])
  .ret)
  (.seq (.reg [⟨0, some 13, none, .bin .eql (.t 6) (.c (.int .i64 1))⟩,
    ⟨1, some 12, none, .mv (.t 13)⟩] [1, 2, 6, 12])
  (.cond (.t 12)
  (.seq (.reg [⟨0, some 14, none, .fld 1 (.t 2)⟩,
    ⟨1, some 15, none, .load none (.t 14)⟩,
    ⟨2, some 16, none, .call (.alone false true) 66 [.t 15, .c (.int .i64 0), .c (.int .i64 999)]⟩,
    ⟨3, some 4, none, .mv (.t 16)⟩] [4])
  .ret)
  (.seq (.reg [⟨0, some 18, none, .bin .eql (.t 6) (.c (.int .i64 2))⟩,
    ⟨1, some 17, none, .mv (.t 18)⟩] [1, 2, 17])
  (.cond (.t 17)
  (.seq (.reg [⟨0, some 19, none, .fld 1 (.t 2)⟩,
    ⟨1, some 20, none, .load none (.t 19)⟩,
    ⟨2, some 21, none, .mv (.t 1)⟩,
    ⟨3, some 22, none, .bin .sub (.t 21) (.c (.int .i64 1))⟩,
    ⟨4, some 23, none, .call (.alone false true) 66 [.t 20, .c (.int .i64 0), .t 22]⟩,
    ⟨5, some 4, none, .mv (.t 23)⟩] [4])
  .ret)
  .skip))))))))
  (.seq (.reg [⟨0, some 4, none, .mv (.c (.bool false))⟩] [4])
  .ret)))⟩
/-- slices.ContainsFunc[[]impl.Val,impl.Val] -/
def c_95 : AFn := ⟨2, 9, [], [.t 4],
  (.seq (.reg [⟨0, some 4, none, .mv (.c (.bool false))⟩] [0, 1])
  (.seq (.reg [⟨0, some 5, none, .mv (.t 0)⟩,
    ⟨1, some 6, none, .mv (.t 1)⟩,
    ⟨2, some 7, none, .call (.alone false true) 111 [.t 5, .t 6]⟩,
    ⟨3, some 8, none, .bin .geq (.t 7) (.c (.int .i64 0))⟩,
    ⟨4, some 4, none, .mv (.t 8)⟩] [4])
  .ret))⟩
/-- impl.valsOk -/
def c_96 : AFn := ⟨2, 9, [], [.t 4],
  (.seq (.reg [⟨0, some 3, none, .boxH (.t 1)⟩,
    ⟨1, some 4, none, .mv (.c (.bool false))⟩] [0, 3])
  (.seq (.reg [⟨0, some 5, none, .mv (.t 0)⟩,
    ⟨1, some 6, none, .mkf 112 [.t 3]⟩,
    ⟨2, some 7, none, .call (.alone true true) 95 [.t 5, .t 6]⟩,
    ⟨3, some 8, none, .nt (.t 7)⟩,
    ⟨4, some 4, none, .mv (.t 8)⟩] [4])
  .ret))⟩
def b_97_0 : AC := (.seq (.seq (.reg [⟨0, some 11, none, .mv (.t 5)⟩,
    ⟨1, some 12, none, .mv (.t 0)⟩,
    ⟨2, some 13, none, .len (.t 12)⟩,
    ⟨3, some 14, none, .bin .lss (.t 11) (.t 13)⟩] [0, 1, 5, 14])
  (.cond (.t 14)
  .skip
  (.exit 0)))
  (.seq (.block 1
  (.seq (.reg [⟨0, some 17, none, .mv (.t 0)⟩,
    ⟨1, some 18, none, .mv (.t 5)⟩,
    ⟨2, some 19, none, .idx 2 (.t 17) (.t 18)⟩,
    ⟨3, some 20, none, .load (some 2) (.t 19)⟩,
    ⟨4, some 21, none, .mv (.t 1)⟩,
    ⟨5, some 22, none, .mv (.t 5)⟩,
    ⟨6, some 23, none, .idx 2 (.t 21) (.t 22)⟩,
    ⟨7, some 24, none, .load (some 2) (.t 23)⟩,
    ⟨8, some 25, none, .call (.alone false true) 10 [.t 20, .t 24]⟩,
    ⟨9, some 26, none, .nt (.t 25)⟩] [0, 1, 5, 26])
  (.cond (.t 26)
  (.seq (.reg [⟨0, some 4, none, .mv (.c (.bool false))⟩] [4])
  .ret)
  .skip)))
  (.reg [⟨0, some 15, none, .mv (.t 5)⟩,
    ⟨1, some 16, none, .bin .add (.t 15) (.c (.int .i64 1))⟩,
    ⟨2, some 5, none, .mv (.t 16)⟩] [0, 1, 5])))
def l_97_0 : AC := b_97_0
theorem u_97_0 {A : Nat → Option AFn} {mt : Nat → Nat → Option Nat} {fr : Fr} {G : AG} {S : List KF} : evS A mt l_97_0 fr G S = evS A mt b_97_0 fr G S := rfl
/-- laws.eqOpS -/
def c_97 : AFn := ⟨2, 27, [], [.t 4],
  (.seq (.reg [⟨0, some 4, none, .mv (.c (.bool false))⟩] [0, 1])
  (.seq (.seq (.reg [⟨0, some 6, none, .mv (.t 0)⟩,
    ⟨1, some 7, none, .len (.t 6)⟩,
    ⟨2, some 8, none, .mv (.t 1)⟩,
    ⟨3, some 9, none, .len (.t 8)⟩,
    ⟨4, some 10, none, .bin .neq (.t 7) (.t 9)⟩] [0, 1, 10])
  (.cond (.t 10)
  (.seq (.reg [⟨0, some 4, none, .mv (.c (.bool false))⟩] [4])
  .ret)
  .skip))
  (.seq (.seq (.reg [⟨0, some 5, none, .mv (.c (.int .i64 0))⟩] [0, 1, 5])
  (.block 0
  (.loop l_97_0)))
  (.seq (.reg [⟨0, some 4, none, .mv (.c (.bool true))⟩] [4])
  .ret))))⟩
/-- spec.l1Op -/
def c_106 : AFn := ⟨3, 56, [3, 4, 5], [.t 6],
  (.seq (.reg [⟨0, some 3, none, .boxP (.t 0)⟩,
    ⟨1, some 4, none, .boxP (.t 1)⟩,
    ⟨2, some 5, none, .boxP (.t 2)⟩,
    ⟨3, some 6, none, .mv (.c (.bool false))⟩] [3, 4, 5])
  (.seq (.seq (.reg [⟨0, some 7, none, .fld 0 (.t 5)⟩,
    ⟨1, some 8, none, .load none (.t 7)⟩] [3, 4, 5, 8])
  (.block 0
  (.seq (.reg [⟨0, some 10, none, .bin .eql (.t 8) (.c (.int .i64 1))⟩,
    ⟨1, some 9, none, .mv (.t 10)⟩] [3, 4, 5, 8, 9])
  (.cond (.t 9)
  (.seq (.reg [⟨0, some 11, none, .fld 1 (.t 5)⟩,
    ⟨1, some 12, none, .load none (.t 11)⟩,
    ⟨2, some 13, none, .call (.alone false true) 55 [.t 12, .c (.int .i64 0), .c (.int .i64 99)]⟩,
    ⟨3, some 6, none, .mv (.t 13)⟩] [6])
  .ret)
  (.seq (.seq (.reg [⟨0, some 15, none, .bin .eql (.t 8) (.c (.int .i64 2))⟩,
    ⟨1, some 14, none, .mv (.t 15)⟩] [3, 4, 5, 8, 14])
  (.cond (.t 14)
  .skip
  (.reg [⟨0, some 16, none, .bin .eql (.t 8) (.c (.int .i64 3))⟩,
    ⟨1, some 14, none, .mv (.t 16)⟩] [3, 4, 5, 8, 14])))
  (.cond (.t 14)
  (.seq (.reg [⟨0, some 17, none, .fld 1 (.t 5)⟩,
    ⟨1, some 18, none, .load none (.t 17)⟩,
    ⟨2, some 19, none, .fld 1 (.t 4)⟩,
    ⟨3, some 20, none, .load none (.t 19)⟩,
    ⟨4, some 21, none, .bin .sub (.t 20) (.c (.int .i64 1))⟩,
    ⟨5, some 22, none, .call (.alone false true) 55 [.t 18, .c (.int .i64 0), .t 21]⟩,
    ⟨6, some 6, none, .mv (.t 22)⟩] [6])
  .ret)
  (.seq (.seq (.reg [⟨0, some 24, none, .bin .eql (.t 8) (.c (.int .i64 7))⟩,
    ⟨1, some 23, none, .mv (.t 24)⟩] [3, 4, 5, 8, 23])
  (.cond (.t 23)
  .skip
  (.reg [⟨0, some 25, none, .bin .eql (.t 8) (.c (.int .i64 8))⟩,
    ⟨1, some 23, none, .mv (.t 25)⟩] [3, 4, 5, 8, 23])))
  (.cond (.t 23)
  (.seq (.reg [⟨0, some 26, none, .fld 1 (.t 5)⟩,
    ⟨1, some 27, none, .load none (.t 26)⟩,
    ⟨2, some 28, none, .fld 2 (.t 4)⟩,
    ⟨3, some 29, none, .load none (.t 28)⟩,
    ⟨4, some 30, none, .len (.t 29)⟩,
    ⟨5, some 31, none, .bin .sub (.t 30) (.c (.int .i64 1))⟩,
    ⟨6, some 32, none, .call (.alone false true) 55 [.t 27, .c (.int .i64 0), .t 31]⟩,
    ⟨7, some 6, none, .mv (.t 32)⟩] [6])
  .ret)
  (.seq (.reg [⟨0, some 34, none, .bin .eql (.t 8) (.c (.int .i64 9))⟩,
    ⟨1, some 33, none, .mv (.t 34)⟩] [3, 5, 8, 33])
  (.cond (.t 33)
  (.seq (.reg [⟨0, some 35, none, .fld 1 (.t 5)⟩,
    ⟨1, some 36, none, .load none (.t 35)⟩,
    ⟨2, some 37, none, .fld 0 (.t 3)⟩,
    ⟨3, some 38, none, .load none (.t 37)⟩,
    ⟨4, some 39, none, .len (.t 38)⟩,
    ⟨5, some 40, none, .bin .sub (.t 39) (.c (.int .i64 1))⟩,
    ⟨6, some 41, none, .call (.alone false true) 55 [.t 36, .c (.int .i64 0), .t 40]⟩,
    ⟨7, some 6, none, .mv (.t 41)⟩] [6])
  .ret)
  (.seq (.seq (.reg [⟨0, some 43, none, .bin .eql (.t 8) (.c (.int .i64 13))⟩,
    ⟨1, some 42, none, .mv (.t 43)⟩] [5, 8, 42])
  (.cond (.t 42)
  .skip
  (.reg [⟨0, some 44, none, .bin .eql (.t 8) (.c (.int .i64 14))⟩,
    ⟨1, some 42, none, .mv (.t 44)⟩] [5, 42])))
  (.cond (.t 42)
  (.seq (.reg [⟨0, some 45, none, .fld 1 (.t 5)⟩,
    ⟨1, some 46, none, .load none (.t 45)⟩,
    ⟨2, some 47, none, .call (.alone false true) 55 [.t 46, .c (.int .i64 0), .c (.int .i64 3)]⟩,
    ⟨3, some 6, none, .mv (.t 47)⟩] [6])
  .ret)
  .skip))))))))))))
  (.seq (.reg [⟨0, some 48, none, .fld 0 (.t 5)⟩,
    ⟨1, some 49, none, .load none (.t 48)⟩,
    ⟨2, some 50, none, .call (.alone false true) 55 [.t 49, .c (.int .i64 1), .c (.int .i64 18)]⟩,
    ⟨3, some 51, none, .mv (.t 50)⟩,
    ⟨4, some 52, some (51, true), .fld 1 (.t 5)⟩,
    ⟨5, some 53, some (51, true), .load none (.t 52)⟩,
    ⟨6, some 54, some (51, true), .bin .eql (.t 53) (.c (.int .i64 0))⟩,
    ⟨7, some 55, none, .pick (.t 51) (.t 54) (.c (.bool false))⟩,
    ⟨8, some 6, none, .mv (.t 55)⟩] [6])
  .ret)))⟩
/-- laws.toOp -/
def c_107 : AFn := ⟨1, 11, [1, 2, 3], [.c 2 (some 2)],
  (.seq (.reg [⟨0, some 1, none, .boxP (.t 0)⟩,
    ⟨1, some 2, none, .allocP [.int .i64 0, .int .i64 0]⟩] [1, 2])
  (.seq (.reg [⟨0, some 3, none, .allocP [.int .i64 0, .int .i64 0]⟩] [1, 2, 3])
  (.seq (.reg [⟨0, some 4, none, .fld 0 (.t 1)⟩,
    ⟨1, some 5, none, .load none (.t 4)⟩,
    ⟨2, some 6, none, .fld 0 (.t 3)⟩,
    ⟨3, none, none, .store 1 (.t 6) (.t 5)⟩] [1, 2, 3])
  (.seq (.reg [⟨0, some 7, none, .fld 1 (.t 1)⟩,
    ⟨1, some 8, none, .load none (.t 7)⟩,
    ⟨2, some 9, none, .fld 1 (.t 3)⟩,
    ⟨3, none, none, .store 1 (.t 9) (.t 8)⟩] [2, 3])
  (.seq (.reg [⟨0, some 10, none, .load (some 2) (.t 3)⟩,
    ⟨1, none, none, .store 2 (.t 2) (.t 10)⟩] [2])
  .ret)))))⟩
def b_108_0 : AC := (.seq (.reg [⟨0, some 9, none, .bin .lss (.t 8) (.t 7)⟩] [0, 1, 7, 8, 9])
  (.seq (.cond (.t 9)
  .skip
  (.exit 0))
  (.seq (.block 1
  (.seq (.reg [⟨0, some 10, none, .mv (.t 8)⟩,
    ⟨1, some 5, none, .mv (.t 10)⟩] [0, 1, 5, 7, 8])
  (.seq (.reg [⟨0, some 11, none, .mv (.t 1)⟩,
    ⟨1, some 12, none, .mv (.t 0)⟩,
    ⟨2, some 13, none, .mv (.t 5)⟩,
    ⟨3, some 14, none, .idx 3 (.t 12) (.t 13)⟩,
    ⟨4, some 15, none, .load (some 3) (.t 14)⟩,
    ⟨5, some 16, none, .callv (.alone false true) (.t 11) [.t 15]⟩] [0, 1, 5, 7, 8, 16])
  (.cond (.t 16)
  (.seq (.reg [⟨0, some 17, none, .mv (.t 5)⟩,
    ⟨1, some 4, none, .mv (.t 17)⟩] [4])
  .ret)
  .skip))))
  (.reg [⟨0, some 18, none, .bin .add (.t 8) (.c (.int .i64 1))⟩,
    ⟨1, some 8, none, .mv (.t 18)⟩] [0, 1, 7, 8]))))
def l_108_0 : AC := b_108_0
theorem u_108_0 {A : Nat → Option AFn} {mt : Nat → Nat → Option Nat} {fr : Fr} {G : AG} {S : List KF} : evS A mt l_108_0 fr G S = evS A mt b_108_0 fr G S := rfl
/-- slices.IndexFunc[[]impl.Method,impl.Method] -/
def c_108 : AFn := ⟨2, 19, [], [.t 4],
  (.seq (.reg [⟨0, some 4, none, .mv (.c (.int .i64 0))⟩] [0, 1])
  (.seq (.seq (.reg [⟨0, some 6, none, .mv (.t 0)⟩,
    ⟨1, some 7, none, .len (.t 6)⟩,
    ⟨2, some 8, none, .mv (.c (.int .i64 0))⟩] [0, 1, 7, 8])
  (.block 0
  (.loop l_108_0)))
  (.seq (.reg [⟨0, some 4, none, .mv (.c (.int .i64 (-1)))⟩] [4])
  .ret)))⟩
def b_109_0 : AC := (.seq (.reg [⟨0, some 9, none, .bin .lss (.t 8) (.t 7)⟩] [0, 1, 7, 8, 9])
  (.seq (.cond (.t 9)
  .skip
  (.exit 0))
  (.seq (.block 1
  (.seq (.reg [⟨0, some 10, none, .mv (.t 8)⟩,
    ⟨1, some 5, none, .mv (.t 10)⟩] [0, 1, 5, 7, 8])
  (.seq (.reg [⟨0, some 11, none, .mv (.t 1)⟩,
    ⟨1, some 12, none, .mv (.t 0)⟩,
    ⟨2, some 13, none, .mv (.t 5)⟩,
    ⟨3, some 14, none, .idx 2 (.t 12) (.t 13)⟩,
    ⟨4, some 15, none, .load (some 2) (.t 14)⟩,
    ⟨5, some 16, none, .callv (.alone false true) (.t 11) [.t 15]⟩] [0, 1, 5, 7, 8, 16])
  (.cond (.t 16)
  (.seq (.reg [⟨0, some 17, none, .mv (.t 5)⟩,
    ⟨1, some 4, none, .mv (.t 17)⟩] [4])
  .ret)
  .skip))))
  (.reg [⟨0, some 18, none, .bin .add (.t 8) (.c (.int .i64 1))⟩,
    ⟨1, some 8, none, .mv (.t 18)⟩] [0, 1, 7, 8]))))
def l_109_0 : AC := b_109_0
theorem u_109_0 {A : Nat → Option AFn} {mt : Nat → Nat → Option Nat} {fr : Fr} {G : AG} {S : List KF} : evS A mt l_109_0 fr G S = evS A mt b_109_0 fr G S := rfl
/-- slices.IndexFunc[[]impl.Op,impl.Op] -/
def c_109 : AFn := ⟨2, 19, [], [.t 4],
  (.seq (.reg [⟨0, some 4, none, .mv (.c (.int .i64 0))⟩] [0, 1])
  (.seq (.seq (.reg [⟨0, some 6, none, .mv (.t 0)⟩,
    ⟨1, some 7, none, .len (.t 6)⟩,
    ⟨2, some 8, none, .mv (.c (.int .i64 0))⟩] [0, 1, 7, 8])
  (.block 0
  (.loop l_109_0)))
  (.seq (.reg [⟨0, some 4, none, .mv (.c (.int .i64 (-1)))⟩] [4])
  .ret)))⟩
/-- impl.mannerOf -/
def c_110 : AFn := ⟨1, 12, [2], [.c 2 (some 5), .t 3],
  (.seq (.reg [⟨0, some 2, none, .allocP [.str ⟨#[]⟩, .int .i64 0, .int .i64 0, .nils, .nilf]⟩,
    ⟨1, some 3, none, .mv (.c (.bool false))⟩] [0, 2])
  (.seq (.seq (.reg [⟨0, some 4, none, .mv (.t 0)⟩,
    ⟨1, some 5, none, .call (.alone false true) 66 [.t 4, .c (.int .i64 1), .c (.int .i64 18)]⟩,
    ⟨2, some 6, none, .nt (.t 5)⟩] [0, 2, 6])
  (.cond (.t 6)
  (.seq (.reg [⟨0, some 7, none, .build [.str ⟨#[]⟩, .int .i64 0, .int .i64 0, .nils, .nilf] []⟩,
    ⟨1, none, none, .store 5 (.t 2) (.t 7)⟩,
    ⟨2, some 3, none, .mv (.c (.bool false))⟩] [2, 3])
  .ret)
  .skip))
  (.seq (.reg [⟨0, some 8, none, .call (.alone false true) 122 []⟩,
    ⟨1, some 9, none, .mv (.t 0)⟩,
    ⟨2, some 10, none, .idx 5 (.t 8) (.t 9)⟩,
    ⟨3, some 11, none, .load (some 5) (.t 10)⟩,
    ⟨4, none, none, .store 5 (.t 2) (.t 11)⟩,
    ⟨5, some 3, none, .mv (.c (.bool true))⟩] [2, 3])
  .ret)))⟩
def b_111_0 : AC := (.seq (.reg [⟨0, some 9, none, .bin .lss (.t 8) (.t 7)⟩] [0, 1, 7, 8, 9])
  (.seq (.cond (.t 9)
  .skip
  (.exit 0))
  (.seq (.block 1
  (.seq (.reg [⟨0, some 10, none, .mv (.t 8)⟩,
    ⟨1, some 5, none, .mv (.t 10)⟩] [0, 1, 5, 7, 8])
  (.seq (.reg [⟨0, some 11, none, .mv (.t 1)⟩,
    ⟨1, some 12, none, .mv (.t 0)⟩,
    ⟨2, some 13, none, .mv (.t 5)⟩,
    ⟨3, some 14, none, .idx 2 (.t 12) (.t 13)⟩,
    ⟨4, some 15, none, .load (some 2) (.t 14)⟩,
    ⟨5, some 16, none, .callv (.alone false true) (.t 11) [.t 15]⟩] [0, 1, 5, 7, 8, 16])
  (.cond (.t 16)
  (.seq (.reg [⟨0, some 17, none, .mv (.t 5)⟩,
    ⟨1, some 4, none, .mv (.t 17)⟩] [4])
  .ret)
  .skip))))
  (.reg [⟨0, some 18, none, .bin .add (.t 8) (.c (.int .i64 1))⟩,
    ⟨1, some 8, none, .mv (.t 18)⟩] [0, 1, 7, 8]))))
def l_111_0 : AC := b_111_0
theorem u_111_0 {A : Nat → Option AFn} {mt : Nat → Nat → Option Nat} {fr : Fr} {G : AG} {S : List KF} : evS A mt l_111_0 fr G S = evS A mt b_111_0 fr G S := rfl
/-- slices.IndexFunc[[]impl.Val,impl.Val] -/
def c_111 : AFn := ⟨2, 19, [], [.t 4],
  (.seq (.reg [⟨0, some 4, none, .mv (.c (.int .i64 0))⟩] [0, 1])
  (.seq (.seq (.reg [⟨0, some 6, none, .mv (.t 0)⟩,
    ⟨1, some 7, none, .len (.t 6)⟩,
    ⟨2, some 8, none, .mv (.c (.int .i64 0))⟩] [0, 1, 7, 8])
  (.block 0
  (.loop l_111_0)))
  (.seq (.reg [⟨0, some 4, none, .mv (.c (.int .i64 (-1)))⟩] [4])
  .ret)))⟩
/-- impl.valsOk$1 -/
def c_112 : AFn := ⟨2, 8, [2], [.t 3],
  (.seq (.reg [⟨0, some 2, none, .boxP (.t 0)⟩,
    ⟨1, some 3, none, .mv (.c (.bool false))⟩] [1, 2])
  (.seq (.reg [⟨0, some 4, none, .load (some 2) (.t 2)⟩,
    ⟨1, some 5, none, .load none (.t 1)⟩,
    ⟨2, some 6, none, .call (.alone false true) 94 [.t 4, .t 5]⟩,
    ⟨3, some 7, none, .nt (.t 6)⟩,
    ⟨4, some 3, none, .mv (.t 7)⟩] [3])
  .ret))⟩
/-- impl.manners -/
def c_122 : AFn := ⟨0, 53, [], [.t 0],
  (.seq (.reg [⟨0, some 0, none, .mv (.c (.nils))⟩] [])
  (.seq (.reg [⟨0, some 1, none, .mv (.c (.func 134 []))⟩] [1])
  (.seq (.reg [⟨0, some 2, none, .mv (.c (.func 136 []))⟩] [1, 2])
  (.seq (.reg [⟨0, some 3, none, .mv (.c (.func 137 []))⟩] [1, 2, 3])
  (.seq (.reg [⟨0, some 4, none, .mv (.c (.func 138 []))⟩] [1, 2, 3, 4])
  (.seq (.reg [⟨0, some 7, none, .litI 1 [.c (.int .i64 (-1))]⟩,
    ⟨1, some 8, none, .litI 1 [.c (.int .i64 2)]⟩,
    ⟨2, some 5, none, .mv (.t 7)⟩,
    ⟨3, some 6, none, .mv (.t 8)⟩] [1, 2, 3, 4, 5, 6])
  (.seq (.reg [⟨0, some 9, none, .build [.str ⟨#[]⟩, .int .i64 0, .int .i64 0, .nils, .nilf] []⟩,
    ⟨1, some 10, none, .mv (.t 1)⟩,
    ⟨2, some 11, none, .callv (.alone false true) (.t 10) [.c (.int .i64 100)]⟩,
    ⟨3, some 12, none, .build [.str ⟨#[]⟩, .int .i64 0, .int .i64 0, .nils, .nilf] [(0, 1, .c (.str ⟨#[110, 117, 109]⟩)), (1, 1, .c (.int .i64 0)), (2, 1, .c (.int .i64 1)), (3, 1, .c (.nils)), (4, 1, .t 11)]⟩,
    ⟨4, some 13, none, .mv (.t 2)⟩,
    ⟨5, some 14, none, .build [.str ⟨#[]⟩, .int .i64 0, .int .i64 0, .nils, .nilf] [(0, 1, .c (.str ⟨#[116, 101, 109, 112]⟩)), (1, 1, .c (.int .i64 0)), (2, 1, .c (.int .i64 1)), (3, 1, .c (.nils)), (4, 1, .t 13)]⟩,
    ⟨6, some 15, none, .mv (.t 5)⟩,
    ⟨7, some 16, none, .mv (.t 2)⟩,
    ⟨8, some 17, none, .build [.str ⟨#[]⟩, .int .i64 0, .int .i64 0, .nils, .nilf] [(0, 1, .c (.str ⟨#[115, 101, 116]⟩)), (1, 1, .c (.int .i64 1)), (2, 1, .c (.int .i64 0)), (3, 1, .t 15), (4, 1, .t 16)]⟩,
    ⟨9, some 18, none, .mv (.t 5)⟩,
    ⟨10, some 19, none, .build [.str ⟨#[]⟩, .int .i64 0, .int .i64 0, .nils, .nilf] [(0, 1, .c (.str ⟨#[100, 114, 111, 112]⟩)), (1, 1, .c (.int .i64 1)), (2, 1, .c (.int .i64 0)), (3, 1, .t 18), (4, 1, .c (.nilf))]⟩,
    ⟨11, some 20, none, .litI 1 [.c (.int .i64 1), .c (.int .i64 1)]⟩,
    ⟨12, some 21, none, .build [.str ⟨#[]⟩, .int .i64 0, .int .i64 0, .nils, .nilf] [(0, 1, .c (.str ⟨#[97, 100, 100]⟩)), (1, 1, .c (.int .i64 2)), (2, 1, .c (.int .i64 1)), (3, 1, .t 20), (4, 1, .c (.nilf))]⟩,
    ⟨13, some 22, none, .litI 1 [.c (.int .i64 (-1)), .c (.int .i64 (-1))]⟩,
    ⟨14, some 23, none, .build [.str ⟨#[]⟩, .int .i64 0, .int .i64 0, .nils, .nilf] [(0, 1, .c (.str ⟨#[115, 97, 109, 101]⟩)), (1, 1, .c (.int .i64 2)), (2, 1, .c (.int .i64 1)), (3, 1, .t 22), (4, 1, .c (.nilf))]⟩,
    ⟨15, some 24, none, .mv (.t 3)⟩,
    ⟨16, some 25, none, .build [.str ⟨#[]⟩, .int .i64 0, .int .i64 0, .nils, .nilf] [(0, 1, .c (.str ⟨#[106, 117, 109, 112]⟩)), (1, 1, .c (.int .i64 0)), (2, 1, .c (.int .i64 0)), (3, 1, .c (.nils)), (4, 1, .t 24)]⟩,
    ⟨17, some 26, none, .mv (.t 5)⟩,
    ⟨18, some 27, none, .mv (.t 3)⟩,
    ⟨19, some 28, none, .build [.str ⟨#[]⟩, .int .i64 0, .int .i64 0, .nils, .nilf] [(0, 1, .c (.str ⟨#[122, 101, 114, 111]⟩)), (1, 1, .c (.int .i64 1)), (2, 1, .c (.int .i64 0)), (3, 1, .t 26), (4, 1, .t 27)]⟩,
    ⟨20, some 29, none, .mv (.t 4)⟩,
    ⟨21, some 30, none, .build [.str ⟨#[]⟩, .int .i64 0, .int .i64 0, .nils, .nilf] [(0, 1, .c (.str ⟨#[99, 97, 108, 108]⟩)), (1, 1, .c (.int .i64 0)), (2, 1, .c (.int .i64 1)), (3, 1, .c (.nils)), (4, 1, .t 29)]⟩,
    ⟨22, some 31, none, .mv (.t 5)⟩,
    ⟨23, some 32, none, .build [.str ⟨#[]⟩, .int .i64 0, .int .i64 0, .nils, .nilf] [(0, 1, .c (.str ⟨#[114, 101, 116]⟩)), (1, 1, .c (.int .i64 1)), (2, 1, .c (.int .i64 0)), (3, 1, .t 31), (4, 1, .c (.nilf))]⟩,
    ⟨24, some 33, none, .build [.str ⟨#[]⟩, .int .i64 0, .int .i64 0, .nils, .nilf] [(0, 1, .c (.str ⟨#[104, 101, 114, 101]⟩)), (1, 1, .c (.int .i64 0)), (2, 1, .c (.int .i64 1)), (3, 1, .c (.nils)), (4, 1, .c (.nilf))]⟩,
    ⟨25, some 34, none, .mv (.t 6)⟩,
    ⟨26, some 35, none, .build [.str ⟨#[]⟩, .int .i64 0, .int .i64 0, .nils, .nilf] [(0, 1, .c (.str ⟨#[115, 101, 110, 100, 101, 114]⟩)), (1, 1, .c (.int .i64 1)), (2, 1, .c (.int .i64 1)), (3, 1, .t 34), (4, 1, .c (.nilf))]⟩,
    ⟨27, some 36, none, .mv (.t 6)⟩,
    ⟨28, some 37, none, .mv (.t 1)⟩,
    ⟨29, some 38, none, .callv (.alone false true) (.t 37) [.c (.int .i64 4)]⟩,
    ⟨30, some 39, none, .build [.str ⟨#[]⟩, .int .i64 0, .int .i64 0, .nils, .nilf] [(0, 1, .c (.str ⟨#[112, 101, 101, 107]⟩)), (1, 1, .c (.int .i64 1)), (2, 1, .c (.int .i64 1)), (3, 1, .t 36), (4, 1, .t 38)]⟩,
    ⟨31, some 40, none, .litI 1 [.c (.int .i64 2), .c (.int .i64 (-1))]⟩,
    ⟨32, some 41, none, .mv (.t 1)⟩,
    ⟨33, some 42, none, .callv (.alone false true) (.t 41) [.c (.int .i64 4)]⟩,
    ⟨34, some 43, none, .build [.str ⟨#[]⟩, .int .i64 0, .int .i64 0, .nils, .nilf] [(0, 1, .c (.str ⟨#[112, 111, 107, 101]⟩)), (1, 1, .c (.int .i64 2)), (2, 1, .c (.int .i64 0)), (3, 1, .t 40), (4, 1, .t 42)]⟩,
    ⟨35, some 44, none, .litI 1 [.c (.int .i64 2), .c (.int .i64 (-1))]⟩,
    ⟨36, some 45, none, .build [.str ⟨#[]⟩, .int .i64 0, .int .i64 0, .nils, .nilf] [(0, 1, .c (.str ⟨#[98, 97, 99, 107]⟩)), (1, 1, .c (.int .i64 2)), (2, 1, .c (.int .i64 1)), (3, 1, .t 44), (4, 1, .c (.nilf))]⟩,
    ⟨37, some 46, none, .mv (.t 5)⟩,
    ⟨38, some 47, none, .build [.str ⟨#[]⟩, .int .i64 0, .int .i64 0, .nils, .nilf] [(0, 1, .c (.str ⟨#[115, 97, 121]⟩)), (1, 1, .c (.int .i64 1)), (2, 1, .c (.int .i64 0)), (3, 1, .t 46), (4, 1, .c (.nilf))]⟩,
    ⟨39, some 48, none, .mv (.t 6)⟩,
    ⟨40, some 49, none, .build [.str ⟨#[]⟩, .int .i64 0, .int .i64 0, .nils, .nilf] [(0, 1, .c (.str ⟨#[100, 101, 97, 100]⟩)), (1, 1, .c (.int .i64 1)), (2, 1, .c (.int .i64 1)), (3, 1, .t 48), (4, 1, .c (.nilf))]⟩,
    ⟨41, some 50, none, .mv (.t 6)⟩,
    ⟨42, some 51, none, .build [.str ⟨#[]⟩, .int .i64 0, .int .i64 0, .nils, .nilf] [(0, 1, .c (.str ⟨#[119, 104, 101, 114, 101]⟩)), (1, 1, .c (.int .i64 1)), (2, 1, .c (.int .i64 1)), (3, 1, .t 50), (4, 1, .c (.nilf))]⟩,
    ⟨43, some 52, none, .litI 5 [.t 9, .t 12, .t 14, .t 17, .t 19, .t 21, .t 23, .t 25, .t 28, .t 30, .t 32, .t 33, .t 35, .t 39, .t 43, .t 45, .t 47, .t 49, .t 51]⟩,
    ⟨44, some 0, none, .mv (.t 52)⟩] [0])
  .ret)))))))⟩
/-- impl.manners$1 -/
def c_134 : AFn := ⟨1, 4, [], [.t 2],
  (.seq (.reg [⟨0, some 1, none, .boxH (.t 0)⟩,
    ⟨1, some 2, none, .mv (.c (.nilf))⟩] [1])
  (.seq (.reg [⟨0, some 3, none, .mkf 135 [.t 1]⟩,
    ⟨1, some 2, none, .mv (.t 3)⟩] [2])
  .ret))⟩
/-- impl.manners$1$1 -/
def c_135 : AFn := ⟨3, 7, [3, 4], [.t 5],
  (.seq (.reg [⟨0, some 3, none, .boxP (.t 0)⟩,
    ⟨1, some 4, none, .boxP (.t 1)⟩,
    ⟨2, some 5, none, .mv (.c (.int .i64 0))⟩] [2])
  (.seq (.reg [⟨0, some 6, none, .load none (.t 2)⟩,
    ⟨1, some 5, none, .mv (.t 6)⟩] [5])
  .ret))⟩
/-- impl.manners$2 -/
def c_136 : AFn := ⟨2, 7, [2, 3], [.t 4],
  (.seq (.reg [⟨0, some 2, none, .boxP (.t 0)⟩,
    ⟨1, some 3, none, .boxP (.t 1)⟩,
    ⟨2, some 4, none, .mv (.c (.int .i64 0))⟩] [3])
  (.seq (.reg [⟨0, some 5, none, .fld 1 (.t 3)⟩,
    ⟨1, some 6, none, .load none (.t 5)⟩,
    ⟨2, some 4, none, .mv (.t 6)⟩] [4])
  .ret))⟩
/-- impl.manners$3 -/
def c_137 : AFn := ⟨2, 8, [2, 3], [.t 4],
  (.seq (.reg [⟨0, some 2, none, .boxP (.t 0)⟩,
    ⟨1, some 3, none, .boxP (.t 1)⟩,
    ⟨2, some 4, none, .mv (.c (.int .i64 0))⟩] [3])
  (.seq (.reg [⟨0, some 5, none, .fld 2 (.t 3)⟩,
    ⟨1, some 6, none, .load none (.t 5)⟩,
    ⟨2, some 7, none, .len (.t 6)⟩,
    ⟨3, some 4, none, .mv (.t 7)⟩] [4])
  .ret))⟩
/-- impl.manners$4 -/
def c_138 : AFn := ⟨2, 8, [2, 3], [.t 4],
  (.seq (.reg [⟨0, some 2, none, .boxP (.t 0)⟩,
    ⟨1, some 3, none, .boxP (.t 1)⟩,
    ⟨2, some 4, none, .mv (.c (.int .i64 0))⟩] [2])
  (.seq (.reg [⟨0, some 5, none, .fld 0 (.t 2)⟩,
    ⟨1, some 6, none, .load none (.t 5)⟩,
    ⟨2, some 7, none, .len (.t 6)⟩,
    ⟨3, some 4, none, .mv (.t 7)⟩] [4])
  .ret))⟩
def AP : Nat → Option AFn := fun n => match n with
  | 1 => some c_1
  | 4 => some c_4
  | 5 => some c_5
  | 7 => some c_7
  | 8 => some c_8
  | 10 => some c_10
  | 11 => some c_11
  | 12 => some c_12
  | 13 => some c_13
  | 14 => some c_14
  | 15 => some c_15
  | 16 => some c_16
  | 17 => some c_17
  | 18 => some c_18
  | 19 => some c_19
  | 25 => some c_25
  | 28 => some c_28
  | 29 => some c_29
  | 30 => some c_30
  | 32 => some c_32
  | 33 => some c_33
  | 34 => some c_34
  | 35 => some c_35
  | 37 => some c_37
  | 38 => some c_38
  | 39 => some c_39
  | 40 => some c_40
  | 41 => some c_41
  | 42 => some c_42
  | 43 => some c_43
  | 54 => some c_54
  | 55 => some c_55
  | 56 => some c_56
  | 57 => some c_57
  | 58 => some c_58
  | 60 => some c_60
  | 61 => some c_61
  | 62 => some c_62
  | 63 => some c_63
  | 64 => some c_64
  | 65 => some c_65
  | 66 => some c_66
  | 67 => some c_67
  | 68 => some c_68
  | 69 => some c_69
  | 70 => some c_70
  | 71 => some c_71
  | 72 => some c_72
  | 82 => some c_82
  | 83 => some c_83
  | 84 => some c_84
  | 86 => some c_86
  | 87 => some c_87
  | 88 => some c_88
  | 89 => some c_89
  | 90 => some c_90
  | 91 => some c_91
  | 92 => some c_92
  | 93 => some c_93
  | 94 => some c_94
  | 95 => some c_95
  | 96 => some c_96
  | 97 => some c_97
  | 106 => some c_106
  | 107 => some c_107
  | 108 => some c_108
  | 109 => some c_109
  | 110 => some c_110
  | 111 => some c_111
  | 112 => some c_112
  | 122 => some c_122
  | 134 => some c_134
  | 135 => some c_135
  | 136 => some c_136
  | 137 => some c_137
  | 138 => some c_138
  | _ => none
theorem AP_1 : AP 1 = some c_1 := rfl
theorem AP_4 : AP 4 = some c_4 := rfl
theorem AP_5 : AP 5 = some c_5 := rfl
theorem AP_7 : AP 7 = some c_7 := rfl
theorem AP_8 : AP 8 = some c_8 := rfl
theorem AP_10 : AP 10 = some c_10 := rfl
theorem AP_11 : AP 11 = some c_11 := rfl
theorem AP_12 : AP 12 = some c_12 := rfl
theorem AP_13 : AP 13 = some c_13 := rfl
theorem AP_14 : AP 14 = some c_14 := rfl
theorem AP_15 : AP 15 = some c_15 := rfl
theorem AP_16 : AP 16 = some c_16 := rfl
theorem AP_17 : AP 17 = some c_17 := rfl
theorem AP_18 : AP 18 = some c_18 := rfl
theorem AP_19 : AP 19 = some c_19 := rfl
theorem AP_25 : AP 25 = some c_25 := rfl
theorem AP_28 : AP 28 = some c_28 := rfl
theorem AP_29 : AP 29 = some c_29 := rfl
theorem AP_30 : AP 30 = some c_30 := rfl
theorem AP_32 : AP 32 = some c_32 := rfl
theorem AP_33 : AP 33 = some c_33 := rfl
theorem AP_34 : AP 34 = some c_34 := rfl
theorem AP_35 : AP 35 = some c_35 := rfl
theorem AP_37 : AP 37 = some c_37 := rfl
theorem AP_38 : AP 38 = some c_38 := rfl
theorem AP_39 : AP 39 = some c_39 := rfl
theorem AP_40 : AP 40 = some c_40 := rfl
theorem AP_41 : AP 41 = some c_41 := rfl
theorem AP_42 : AP 42 = some c_42 := rfl
theorem AP_43 : AP 43 = some c_43 := rfl
theorem AP_54 : AP 54 = some c_54 := rfl
theorem AP_55 : AP 55 = some c_55 := rfl
theorem AP_56 : AP 56 = some c_56 := rfl
theorem AP_57 : AP 57 = some c_57 := rfl
theorem AP_58 : AP 58 = some c_58 := rfl
theorem AP_60 : AP 60 = some c_60 := rfl
theorem AP_61 : AP 61 = some c_61 := rfl
theorem AP_62 : AP 62 = some c_62 := rfl
theorem AP_63 : AP 63 = some c_63 := rfl
theorem AP_64 : AP 64 = some c_64 := rfl
theorem AP_65 : AP 65 = some c_65 := rfl
theorem AP_66 : AP 66 = some c_66 := rfl
theorem AP_67 : AP 67 = some c_67 := rfl
theorem AP_68 : AP 68 = some c_68 := rfl
theorem AP_69 : AP 69 = some c_69 := rfl
theorem AP_70 : AP 70 = some c_70 := rfl
theorem AP_71 : AP 71 = some c_71 := rfl
theorem AP_72 : AP 72 = some c_72 := rfl
theorem AP_82 : AP 82 = some c_82 := rfl
theorem AP_83 : AP 83 = some c_83 := rfl
theorem AP_84 : AP 84 = some c_84 := rfl
theorem AP_86 : AP 86 = some c_86 := rfl
theorem AP_87 : AP 87 = some c_87 := rfl
theorem AP_88 : AP 88 = some c_88 := rfl
theorem AP_89 : AP 89 = some c_89 := rfl
theorem AP_90 : AP 90 = some c_90 := rfl
theorem AP_91 : AP 91 = some c_91 := rfl
theorem AP_92 : AP 92 = some c_92 := rfl
theorem AP_93 : AP 93 = some c_93 := rfl
theorem AP_94 : AP 94 = some c_94 := rfl
theorem AP_95 : AP 95 = some c_95 := rfl
theorem AP_96 : AP 96 = some c_96 := rfl
theorem AP_97 : AP 97 = some c_97 := rfl
theorem AP_106 : AP 106 = some c_106 := rfl
theorem AP_107 : AP 107 = some c_107 := rfl
theorem AP_108 : AP 108 = some c_108 := rfl
theorem AP_109 : AP 109 = some c_109 := rfl
theorem AP_110 : AP 110 = some c_110 := rfl
theorem AP_111 : AP 111 = some c_111 := rfl
theorem AP_112 : AP 112 = some c_112 := rfl
theorem AP_122 : AP 122 = some c_122 := rfl
theorem AP_134 : AP 134 = some c_134 := rfl
theorem AP_135 : AP 135 = some c_135 := rfl
theorem AP_136 : AP 136 = some c_136 := rfl
theorem AP_137 : AP 137 = some c_137 := rfl
theorem AP_138 : AP 138 = some c_138 := rfl
end Go.Ai
