/-
  The code of the functions that the laws reach, as the evaluator runs it: printed by a program of ours off the translation, and held against it by the kernel.
-/
import Derived.Test.YtdlpbedneamebaaGreatDoorProg
import Derived.Test.YtdlpbedneamebaaGreatDoorVmR
import Derived.Test.YtdlpbedneamebaaGreatDoorVmO
import Derived.KernelRfl
namespace Go.Proofs.YtdlpbedneamebaaGreatDoor
open Go.VM
instance glob : Glob := ⟨[(0, pow10)], [(97, ⟨122, true, false, endRun 122, 0⟩), (101, ⟨61, true, false, colRun, 0⟩), (102, ⟨61, true, false, keepRun 103, 0⟩), (150, ⟨61, true, false, endRun 61, 0⟩), (184, ⟨3, false, false, revRun, 0⟩)]⟩
-- 3: corebank/corebanktop.TopReports
def body3_1 : C :=
 (.seq (.seq (.q [(40, (.op (.bin .lss) [(.sl 8), (.op .len [(.op (.ld 1 false) [(.op (.fa 2 1) [(.sl 2)])])])]))])
 (.cond (.sl 40) .skip (.exit 2 [1, 2, 5, 6, 7])))
 (.seq (.blk 3 (.q [(7, (.ite (.sl 7) (.op (.bin .neq) [(.op (.ld 1 false) [(.op (.fa 1 1) [(.op (.ix 4) [(.op (.ld 1 false) [(.op (.fa 2 1) [(.sl 2)])]), (.sl 8)])])]), (.op (.ld 1 false) [(.op (.fa 0 1) [(.op (.ix 4) [(.op (.ld 1 false) [(.op (.fa 2 1) [(.sl 2)])]), (.sl 6)])])])]) (.k (.b false))))]))
 (.q [(8, (.op (.bin .add) [(.sl 8), (.k (.i .i64 1))]))])))
def body3_2 : C :=
 (.seq (.seq (.q [(33, (.op (.bin .lss) [(.sl 6), (.op .len [(.op (.ld 1 false) [(.op (.fa 2 1) [(.sl 2)])])])]))])
 (.cond (.sl 33) .skip (.exit 0 [1, 2, 5])))
 (.seq (.blk 1 (.seq (.q [(7, (.k (.b true)))])
 (.seq (.seq (.q [(8, (.k (.i .i64 0)))])
 (.blk 2 (.loop [1, 2, 5, 6, 7, 8] body3_1)))
 (.seq (.q [(59, (.sl 7))])
 (.cond (.sl 59) (.d [.mv 60 (.t 5), .fa 61 2 1 (.t 2), .q 62 (.ld 1 false) [(.t 61)], .mv 63 (.t 6), .ix 64 4 (.t 62) (.t 63), .fa 65 3 1 (.t 64), .q 66 (.ld 1 false) [(.t 65)], .fa 67 2 1 (.t 2), .q 68 (.ld 1 false) [(.t 67)], .mv 69 (.t 6), .ix 70 4 (.t 68) (.t 69), .fa 71 0 1 (.t 70), .q 72 (.ld 1 false) [(.t 71)], .bsl 73 3 1 [(.t 72)], .bld 74 [(.s []), (.i .i64 0), (.l [])] [(0, 1), (1, 1), (2, 1)] [(.t 66), (.c (.i .i64 1)), (.t 73)], .bsl 75 41 3 [(.t 74)], .app 76 41 3 48 (.t 60) (.t 75), .as 5 (.t 76)] [[], [], [1], [], [1, 2, 3], [1, 2, 3, 4], [1, 2, 3, 4, 5], [], [7], [], [7, 8, 9], [7, 8, 9, 10], [7, 8, 9, 10, 11], [7, 8, 9, 10, 11, 12], [1, 2, 3, 4, 5, 6, 7, 8, 9, 10, 11, 12, 13], [1, 2, 3, 4, 5, 6, 7, 8, 9, 10, 11, 12, 13, 14], [0, 1, 2, 3, 4, 5, 6, 7, 8, 9, 10, 11, 12, 13, 14, 15], [0, 1, 2, 3, 4, 5, 6, 7, 8, 9, 10, 11, 12, 13, 14, 15, 16]] [60, 61, 62, 63, 64, 65, 66, 67, 68, 69, 70, 71, 72, 73, 74, 75, 76]) .skip)))))
 (.q [(6, (.op (.bin .add) [(.sl 6), (.k (.i .i64 1))]))])))
def body3_3 : C :=
 (.seq (.seq (.q [(140, (.op (.bin .lss) [(.sl 18), (.op .len [(.sl 15)])]))])
 (.cond (.sl 140) .skip (.exit 8 [1, 2, 5, 9, 11, 12, 13, 14, 16, 17])))
 (.seq (.blk 9 (.q [(17, (.op (.bin .add) [(.sl 17), (.op (.call true 9) [(.op (.ld 22 true) [(.sl 2)]), (.op (.ld 3 true) [(.op (.ix 3) [(.sl 5), (.sl 13)])]), (.op (.ld 1 false) [(.op (.fa 1 1) [(.sl 14)])]), (.op (.ld 1 false) [(.op (.ix 1) [(.sl 15), (.sl 18)])])])]))]))
 (.q [(18, (.op (.bin .add) [(.sl 18), (.k (.i .i64 1))]))])))
def body3_4 : C :=
 (.seq (.seq (.q [(112, (.op (.bin .lss) [(.sl 13), (.op .len [(.sl 5)])]))])
 (.cond (.sl 112) .skip (.exit 6 [1, 2, 5, 9, 11, 12])))
 (.seq (.blk 7 (.seq (.s [.mv 115 (.t 9), .mv 116 (.t 13), .fa 117 0 1 (.t 2), .q 118 (.ld 1 false) [(.t 117)], .q 119 .len [(.t 118)], .q 120 (.bin .mul) [(.t 116), (.t 119)], .mv 121 (.t 11), .q 122 (.bin .add) [(.t 120), (.t 121)], .ix 123 3 (.t 115) (.t 122), .q 124 (.ld 3 true) [(.t 123)], .alo 14 [(.s []), (.s []), (.i .i64 0)], .sto 3 (.t 14) (.t 124)] [115, 116, 117, 118, 119, 120, 121, 122, 123, 124])
 (.seq (.d [.q 126 (.ld 22 true) [(.t 2)], .mv 127 (.t 5), .mv 128 (.t 13), .ix 129 3 (.t 127) (.t 128), .q 130 (.ld 3 true) [(.t 129)], .fa 131 1 1 (.t 14), .q 132 (.ld 1 false) [(.t 131)], .mv 133 (.t 1), .call (some 134) 8 [(.t 126), (.t 130), (.t 132), (.t 133)], .mv 125 (.t 134), .ext 135 0 125, .ext 136 1 125, .as 15 (.t 135), .as 16 (.t 136)] [[], [], [], [1, 2], [1, 2, 3], [], [5], [], [0, 1, 2, 3, 4, 5, 6, 7], [0, 1, 2, 3, 4, 5, 6, 7, 8], [0, 1, 2, 3, 4, 5, 6, 7, 8, 9], [0, 1, 2, 3, 4, 5, 6, 7, 8, 9], [0, 1, 2, 3, 4, 5, 6, 7, 8, 9, 10], [0, 1, 2, 3, 4, 5, 6, 7, 8, 9, 10, 11, 12]] [126, 127, 128, 129, 130, 131, 132, 133, 134, 125, 135, 136])
 (.seq (.q [(17, (.k (.i .i64 0)))])
 (.seq (.seq (.q [(18, (.k (.i .i64 0)))])
 (.blk 8 (.loop [1, 2, 5, 9, 11, 12, 13, 14, 15, 16, 17, 18] body3_3)))
 (.seq (.seq (.q [(175, (.ite (.ite (.op (.bin .neq) [(.sl 16), (.k (.i .i64 0))]) (.k (.b true)) (.op (.bin .neq) [(.sl 17), (.op (.ld 1 false) [(.op (.fa 2 1) [(.sl 14)])])])) (.k (.b true)) (.op (.bin .neq) [(.op (.ld 1 false) [(.op (.fa 1 1) [(.sl 14)])]), (.op (.ld 1 false) [(.op (.fa 0 1) [(.op (.ix 2) [(.op (.ld 1 false) [(.op (.fa 0 1) [(.sl 2)])]), (.sl 11)])])])])))])
 (.cond (.sl 175) (.seq (.q [(4, (.k (.b false)))])
 (.ret [4])) .skip))
 (.q [(12, (.op (.bin .add) [(.sl 12), (.op (.ld 1 false) [(.op (.fa 2 1) [(.sl 14)])])]))])))))))
 (.q [(13, (.op (.bin .add) [(.sl 13), (.k (.i .i64 1))]))])))
def body3_5 : C :=
 (.seq (.seq (.q [(106, (.op (.bin .lss) [(.sl 11), (.op .len [(.op (.ld 1 false) [(.op (.fa 0 1) [(.sl 2)])])])]))])
 (.cond (.sl 106) .skip (.exit 4 [])))
 (.seq (.blk 5 (.seq (.q [(12, (.k (.i .i64 0)))])
 (.seq (.seq (.q [(13, (.k (.i .i64 0)))])
 (.blk 6 (.loop [1, 2, 5, 9, 11, 12, 13] body3_4)))
 (.seq (.q [(181, (.op (.bin .neq) [(.sl 12), (.k (.i .i64 0))]))])
 (.cond (.sl 181) (.seq (.q [(4, (.k (.b false)))])
 (.ret [4])) .skip)))))
 (.q [(11, (.op (.bin .add) [(.sl 11), (.k (.i .i64 1))]))])))
def code3 : FCode := ⟨2, [.tmp 4],
 (.seq (.s [.box 2 (.t 0), .as 4 (.c (.b false))] [])
 (.seq (.seq (.q [(27, (.ite (.op (.un .not) [(.op (.call false 5) [(.op (.ld 22 true) [(.sl 2)])])]) (.k (.b true)) (.op (.bin .gtr) [(.op .len [(.op (.ld 1 false) [(.op (.fa 19 1) [(.sl 2)])])]), (.k (.i .i64 60))])))])
 (.cond (.sl 27) (.seq (.q [(4, (.op (.call false 6) []))])
 (.ret [4])) .skip))
 (.seq (.s [.as 5 (.c (.ow 41 []))] [])
 (.seq (.seq (.q [(6, (.k (.i .i64 0)))])
 (.blk 0 (.loop [1, 2, 5, 6] body3_2)))
 (.seq (.s [.q 78 (.ld 22 true) [(.t 2)], .mv 79 (.t 5), .mv 80 (.t 1), .call (some 81) 7 [(.t 78), (.t 79), (.t 80)], .mv 77 (.t 81), .ext 82 0 77, .ext 83 1 77, .as 9 (.t 82), .as 10 (.t 83)] [78, 79, 80, 81, 77, 82, 83])
 (.seq (.seq (.q [(96, (.ite (.op (.bin .neq) [(.sl 10), (.k (.i .i64 0))]) (.k (.b true)) (.op (.bin .neq) [(.op .len [(.sl 9)]), (.op (.bin .mul) [(.op .len [(.sl 5)]), (.op .len [(.op (.ld 1 false) [(.op (.fa 0 1) [(.sl 2)])])])])])))])
 (.cond (.sl 96) (.seq (.q [(4, (.ite (.op (.bin .neq) [(.sl 10), (.k (.i .i64 0))]) (.op (.call false 6) []) (.k (.b false))))])
 (.ret [4])) .skip))
 (.seq (.seq (.q [(11, (.k (.i .i64 0)))])
 (.blk 4 (.loop [1, 2, 5, 9, 11] body3_5)))
 (.seq (.q [(4, (.op (.call false 6) []))])
 (.ret [4])))))))))⟩
theorem comp3 : compile Tryz.prog Tryz.f3 = some code3 := by kernel_rfl
theorem okf3 : okFn Tryz.prog 3 = true := by kernel_rfl
-- 5: corebank/corebanktop.sound
def code5 : FCode := ⟨1, [.tmp 2],
 (.seq (.s [.box 1 (.t 0), .as 2 (.c (.b false))] [])
 (.seq (.q [(2, (.ite (.op (.call false 15) [(.op (.ld 22 true) [(.sl 1)])]) (.op (.bin .eql) [(.op (.call false 16) [(.op (.ld 22 true) [(.sl 1)])]), (.k (.i .i64 0))]) (.k (.b false))))])
 (.ret [2])))⟩
theorem comp5 : compile Tryz.prog Tryz.f5 = some code5 := by kernel_rfl
theorem okf5 : okFn Tryz.prog 5 = true := by kernel_rfl
-- 6: corebank/corebanktop.reports
def code6 : FCode := ⟨0, [.tmp 0],
 (.seq (.q [(0, (.k (.b false)))])
 (.seq (.q [(0, (.ite (.op (.call false 10) []) (.op (.call false 17) []) (.k (.b false))))])
 (.ret [0])))⟩
theorem comp6 : compile Tryz.prog Tryz.f6 = some code6 := by kernel_rfl
theorem okf6 : okFn Tryz.prog 6 = true := by kernel_rfl
-- 8: corebank/report.Drill
def body8_1 : C :=
 (.seq (.q [(36, (.op (.bin .lss) [(.sl 35), (.sl 34)]))])
 (.seq (.cond (.sl 36) .skip (.exit 0 [13]))
 (.seq (.blk 1 (.seq (.s [.ix 37 10 (.t 33) (.t 35), .q 38 (.ld 10 true) [(.t 37)], .alo 15 [(.i .i64 0), (.i .i64 0), (.i .i64 0), (.i .i64 0), (.i .i64 0), (.i .i64 0), (.s []), (.s []), (.l []), (.i .u64 0)], .sto 10 (.t 15) (.t 38)] [37, 38])
 (.seq (.g [.s (.fa 39 1 1 (.t 15)), .s (.q 40 (.ld 1 false) [(.t 39)]), .s (.mv 41 (.t 3)), .s (.q 42 (.bin .leq) [(.t 40), (.t 41)]), .s (.mv 43 (.t 42)), .gd 43 true (some 44) (.q 44 (.ld 22 true) [(.t 4)]), .gd 43 true (some 45) (.q 45 (.ld 3 true) [(.t 5)]), .gd 43 true (some 46) (.q 46 (.ld 10 true) [(.t 15)]), .gd 43 true (some 47) (.call (some 47) 19 [(.t 44), (.t 45), (.t 46)]), .gd 43 true (some 48) (.mv 48 (.t 2)), .gd 43 true (some 49) (.mget 49 1 (.i .i64 0) (.t 47) (.t 48)), .gd 43 true (some 50) (.q 50 (.bin .neq) [(.t 49), (.c (.i .i64 0))]), .pick 51 43 (.t 50) (.c (.b false))] [39, 40, 41, 42, 43, 44, 45, 46, 47, 48, 49, 50])
 (.cond (.sl 51) (.s [.mv 52 (.t 13), .fa 53 0 1 (.t 15), .q 54 (.ld 1 false) [(.t 53)], .bsl 55 3 1 [(.t 54)], .app 56 3 1 8 (.t 52) (.t 55), .as 13 (.t 56)] [52, 53, 54, 55, 56]) .skip))))
 (.q [(35, (.op (.bin .add) [(.sl 35), (.k (.i .i64 1))]))]))))
def code8 : FCode := ⟨4, [.tmp 8, .tmp 9],
 (.seq (.s [.box 4 (.t 0), .box 5 (.t 1), .as 8 (.c (.ow 3 [])), .as 9 (.c (.i .i64 0))] [])
 (.seq (.seq (.q [(10, (.op (.call false 18) [(.op (.ld 22 true) [(.sl 4)]), (.op (.bsl 3) [(.op (.ld 3 true) [(.sl 5)])])]))])
 (.seq (.q [(21, (.op (.bin .neq) [(.sl 10), (.k (.i .i64 0))]))])
 (.cond (.sl 21) (.seq (.s [.mv 22 (.t 10), .as 8 (.c (.ow 3 [])), .as 9 (.t 22)] [22])
 (.ret [8, 9])) .skip)))
 (.seq (.seq (.s [.fa 24 0 1 (.t 4), .q 25 (.ld 1 false) [(.t 24)], .mv 26 (.t 2), .call (some 27) 21 [(.t 25), (.t 26)], .mv 23 (.t 27), .ext 28 0 23, .ext 29 1 23, .alo 11 [(.s []), (.i .i64 0)], .sto 2 (.t 11) (.t 28), .as 12 (.t 29)] [24, 25, 26, 27, 23, 28, 29, 11])
 (.seq (.q [(31, (.op (.un .not) [(.sl 12)]))])
 (.cond (.sl 31) (.seq (.s [.as 8 (.c (.ow 3 [])), .as 9 (.c (.i .i64 14))] [])
 (.ret [8, 9])) .skip)))
 (.seq (.s [.as 13 (.c (.ow 3 []))] [])
 (.seq (.seq (.s [.fa 32 19 1 (.t 4), .q 33 (.ld 1 false) [(.t 32)], .q 34 .len [(.t 33)], .mv 35 (.c (.i .i64 0))] [32])
 (.blk 0 (.loop [2, 3, 4, 5, 13, 33, 34, 35] body8_1)))
 (.seq (.s [.mv 58 (.t 13), .as 8 (.t 58), .as 9 (.c (.i .i64 0))] [58])
 (.ret [8, 9])))))))⟩
theorem comp8 : compile Tryz.prog Tryz.f8 = some code8 := by kernel_rfl
theorem okf8 : okFn Tryz.prog 8 = true := by kernel_rfl
-- 9: corebank/report.Amount
def body9_1 : C :=
 (.seq (.q [(20, (.op (.bin .lss) [(.sl 19), (.sl 18)]))])
 (.seq (.cond (.sl 20) .skip (.exit 0 []))
 (.seq (.blk 1 (.seq (.s [.ix 21 10 (.t 17) (.t 19), .q 22 (.ld 10 true) [(.t 21)], .alo 10 [(.i .i64 0), (.i .i64 0), (.i .i64 0), (.i .i64 0), (.i .i64 0), (.i .i64 0), (.s []), (.s []), (.l []), (.i .u64 0)], .sto 10 (.t 10) (.t 22)] [21, 22])
 (.seq (.q [(26, (.op (.bin .eql) [(.op (.ld 1 false) [(.op (.fa 0 1) [(.sl 10)])]), (.sl 3)]))])
 (.cond (.sl 26) (.seq (.s [.q 27 (.ld 22 true) [(.t 4)], .q 28 (.ld 3 true) [(.t 5)], .q 29 (.ld 10 true) [(.t 10)], .call (some 30) 19 [(.t 27), (.t 28), (.t 29)], .mv 31 (.t 2), .mget 32 1 (.i .i64 0) (.t 30) (.t 31), .as 8 (.t 32)] [27, 28, 29, 30, 31, 32])
 (.ret [8])) .skip))))
 (.q [(19, (.op (.bin .add) [(.sl 19), (.k (.i .i64 1))]))]))))
def code9 : FCode := ⟨4, [.tmp 8],
 (.seq (.s [.box 4 (.t 0), .box 5 (.t 1), .as 8 (.c (.i .i64 0))] [])
 (.seq (.seq (.q [(15, (.op (.bin .neq) [(.op (.call false 18) [(.op (.ld 22 true) [(.sl 4)]), (.op (.bsl 3) [(.op (.ld 3 true) [(.sl 5)])])]), (.k (.i .i64 0))]))])
 (.cond (.sl 15) (.seq (.q [(8, (.k (.i .i64 0)))])
 (.ret [8])) .skip))
 (.seq (.seq (.s [.fa 16 19 1 (.t 4), .q 17 (.ld 1 false) [(.t 16)], .q 18 .len [(.t 17)], .mv 19 (.c (.i .i64 0))] [16])
 (.blk 0 (.loop [2, 3, 4, 5, 17, 18, 19] body9_1)))
 (.seq (.q [(8, (.k (.i .i64 0)))])
 (.ret [8])))))⟩
theorem comp9 : compile Tryz.prog Tryz.f9 = some code9 := by kernel_rfl
theorem okf9 : okFn Tryz.prog 9 = true := by kernel_rfl
-- 10: corebank/corebanktop.alive
def code10 : FCode := ⟨0, [.tmp 0],
 (.seq (.q [(0, (.k (.b false)))])
 (.seq (.s [.call (some 3) 22 [], .alo 1 [(.l []), (.l []), (.l []), (.i .i64 0), (.i .i64 0), (.i .i64 0), (.i .i64 0), (.i .i64 0), (.i .i64 0), (.i .i64 0), (.i .i64 0), (.i .i64 0), (.i .i64 0), (.i .i64 0), (.i .i64 0), (.i .i64 0), (.i .i64 0), (.l []), (.l []), (.l []), (.l []), (.l [])], .sto 22 (.t 1) (.t 3)] [3])
 (.seq (.s [.q 5 (.ld 22 true) [(.t 1)], .bld 6 [(.i .i64 0), (.i .i64 0), (.s [])] [(0, 1), (1, 1), (2, 1)] [(.c (.i .i64 101)), (.c (.i .i64 100000)), (.c (.s [69, 85, 82]))], .bld 7 [(.i .i64 0), (.i .i64 0), (.s [])] [(0, 1), (1, 1), (2, 1)] [(.c (.i .i64 1000)), (.c (.i .i64 (-100000))), (.c (.s [69, 85, 82]))], .bsl 8 61 3 [(.t 6), (.t 7)], .bld 9 [(.i .i64 0), (.i .i64 0), (.i .i64 0), (.i .i64 0), (.i .i64 0), (.i .i64 0), (.s []), (.s []), (.l []), (.i .u64 0)] [(1, 1), (2, 1), (3, 1), (6, 1), (8, 1)] [(.c (.i .i64 9678)), (.c (.i .i64 9678)), (.c (.i .i64 1)), (.c (.s [107])), (.t 8)], .call (some 10) 11 [(.t 5), (.t 9)], .mv 4 (.t 10), .ext 11 0 4, .ext 12 1 4, .sto 22 (.t 1) (.t 11), .as 2 (.t 12)] [5, 6, 7, 8, 9, 10, 4, 11, 12])
 (.seq (.q [(0, (.ite (.ite (.ite (.op (.bin .eql) [(.sl 2), (.k (.i .i64 0))]) (.op (.bin .eql) [(.op .len [(.op (.ld 1 false) [(.op (.fa 19 1) [(.sl 1)])])]), (.k (.i .i64 1))]) (.k (.b false))) (.op (.bin .eql) [(.op (.call false 12) [(.op (.ld 1 false) [(.op (.fa 19 1) [(.sl 1)])]), (.k (.i .i64 1000))]), (.k (.i .i64 100000))]) (.k (.b false))) (.op (.call false 13) [(.op (.ld 22 true) [(.sl 1)]), (.k (.i .i64 1000)), (.k (.i .i64 9678))]) (.k (.b false))))])
 (.ret [0])))))⟩
theorem comp10 : compile Tryz.prog Tryz.f10 = some code10 := by kernel_rfl
theorem okf10 : okFn Tryz.prog 10 = true := by kernel_rfl
-- 15: corebank/corebanklaw51.Few
def body15_1 : C :=
 (.seq (.seq (.q [(55, (.op (.bin .lss) [(.sl 3), (.op .len [(.op (.ld 1 false) [(.op (.fa 1 1) [(.sl 1)])])])]))])
 (.cond (.sl 55) .skip (.exit 0 [1])))
 (.seq (.blk 1 (.seq (.q [(75, (.ite (.op (.bin .gtr) [(.op .len [(.op (.ld 1 false) [(.op (.fa 2 1) [(.op (.ix 3) [(.op (.ld 1 false) [(.op (.fa 1 1) [(.sl 1)])]), (.sl 3)])])])]), (.k (.i .i64 40))]) (.k (.b true)) (.op (.bin .gtr) [(.op .len [(.op (.ld 1 false) [(.op (.fa 1 1) [(.op (.ix 3) [(.op (.ld 1 false) [(.op (.fa 1 1) [(.sl 1)])]), (.sl 3)])])])]), (.k (.i .i64 10))])))])
 (.cond (.sl 75) (.seq (.q [(2, (.k (.b false)))])
 (.ret [2])) .skip)))
 (.q [(3, (.op (.bin .add) [(.sl 3), (.k (.i .i64 1))]))])))
def body15_2 : C :=
 (.seq (.seq (.q [(80, (.op (.bin .lss) [(.sl 4), (.op .len [(.op (.ld 1 false) [(.op (.fa 19 1) [(.sl 1)])])])]))])
 (.cond (.sl 80) .skip (.exit 2 [])))
 (.seq (.blk 3 (.seq (.q [(90, (.op (.bin .gtr) [(.op .len [(.op (.ld 1 false) [(.op (.fa 8 1) [(.op (.ix 10) [(.op (.ld 1 false) [(.op (.fa 19 1) [(.sl 1)])]), (.sl 4)])])])]), (.k (.i .i64 12))]))])
 (.cond (.sl 90) (.seq (.q [(2, (.k (.b false)))])
 (.ret [2])) .skip)))
 (.q [(4, (.op (.bin .add) [(.sl 4), (.k (.i .i64 1))]))])))
def code15 : FCode := ⟨1, [.tmp 2],
 (.seq (.s [.box 1 (.t 0), .as 2 (.c (.b false))] [])
 (.seq (.seq (.q [(50, (.ite (.ite (.ite (.ite (.ite (.ite (.ite (.op (.bin .gtr) [(.op .len [(.op (.ld 1 false) [(.op (.fa 18 1) [(.sl 1)])])]), (.k (.i .i64 8))]) (.k (.b true)) (.op (.bin .gtr) [(.op .len [(.op (.ld 1 false) [(.op (.fa 19 1) [(.sl 1)])])]), (.k (.i .i64 90))])) (.k (.b true)) (.op (.bin .gtr) [(.op .len [(.op (.ld 1 false) [(.op (.fa 2 1) [(.sl 1)])])]), (.k (.i .i64 40))])) (.k (.b true)) (.op (.bin .gtr) [(.op .len [(.op (.ld 1 false) [(.op (.fa 17 1) [(.sl 1)])])]), (.k (.i .i64 12))])) (.k (.b true)) (.op (.bin .gtr) [(.op .len [(.op (.ld 1 false) [(.op (.fa 1 1) [(.sl 1)])])]), (.k (.i .i64 4))])) (.k (.b true)) (.op (.bin .gtr) [(.op .len [(.op (.ld 1 false) [(.op (.fa 20 1) [(.sl 1)])])]), (.k (.i .i64 20))])) (.k (.b true)) (.op (.bin .gtr) [(.op .len [(.op (.ld 1 false) [(.op (.fa 21 1) [(.sl 1)])])]), (.k (.i .i64 20))])) (.k (.b true)) (.op (.bin .gtr) [(.op .len [(.op (.ld 1 false) [(.op (.fa 0 1) [(.sl 1)])])]), (.k (.i .i64 8))])))])
 (.cond (.sl 50) (.seq (.q [(2, (.k (.b false)))])
 (.ret [2])) .skip))
 (.seq (.seq (.q [(3, (.k (.i .i64 0)))])
 (.blk 0 (.loop [1, 3] body15_1)))
 (.seq (.seq (.q [(4, (.k (.i .i64 0)))])
 (.blk 2 (.loop [1, 4] body15_2)))
 (.seq (.q [(2, (.k (.b true)))])
 (.ret [2]))))))⟩
theorem comp15 : compile Tryz.prog Tryz.f15 = some code15 := by kernel_rfl
theorem okf15 : okFn Tryz.prog 15 = true := by kernel_rfl
-- 16: corebank/corebankref26.Check
def code16 : FCode := ⟨1, [.tmp 2],
 (.seq (.s [.box 1 (.t 0), .as 2 (.c (.i .i64 0))] [])
 (.seq (.q [(3, (.op (.call false 36) [(.op (.ld 1 false) [(.op (.fa 0 1) [(.sl 1)])])]))])
 (.seq (.seq (.q [(8, (.op (.bin .eql) [(.sl 3), (.k (.i .i64 0))]))])
 (.cond (.sl 8) (.q [(3, (.op (.call false 37) [(.op (.ld 1 false) [(.op (.fa 1 1) [(.sl 1)])])]))]) .skip))
 (.seq (.seq (.q [(13, (.op (.bin .eql) [(.sl 3), (.k (.i .i64 0))]))])
 (.cond (.sl 13) (.q [(3, (.op (.call false 38) [(.op (.ld 1 false) [(.op (.fa 2 1) [(.sl 1)])]), (.op (.ld 14 true) [(.op (.fa 3 14) [(.sl 1)])])]))]) .skip))
 (.seq (.seq (.q [(20, (.op (.bin .eql) [(.sl 3), (.k (.i .i64 0))]))])
 (.cond (.sl 20) (.q [(3, (.op (.call false 39) [(.op (.ld 22 true) [(.sl 1)])]))]) .skip))
 (.seq (.seq (.q [(24, (.op (.bin .eql) [(.sl 3), (.k (.i .i64 0))]))])
 (.cond (.sl 24) (.q [(3, (.op (.call false 40) [(.op (.ld 22 true) [(.sl 1)])]))]) .skip))
 (.seq (.seq (.q [(28, (.op (.bin .eql) [(.sl 3), (.k (.i .i64 0))]))])
 (.cond (.sl 28) (.q [(3, (.op (.call false 41) [(.op (.ld 22 true) [(.sl 1)])]))]) .skip))
 (.seq (.seq (.q [(32, (.op (.bin .eql) [(.sl 3), (.k (.i .i64 0))]))])
 (.cond (.sl 32) (.q [(3, (.op (.call false 42) [(.op (.ld 1 false) [(.op (.fa 20 1) [(.sl 1)])])]))]) .skip))
 (.seq (.seq (.q [(37, (.op (.bin .eql) [(.sl 3), (.k (.i .i64 0))]))])
 (.cond (.sl 37) (.q [(3, (.op (.call false 43) [(.op (.ld 1 false) [(.op (.fa 21 1) [(.sl 1)])])]))]) .skip))
 (.seq (.q [(2, (.sl 3))])
 (.ret [2])))))))))))⟩
theorem comp16 : compile Tryz.prog Tryz.f16 = some code16 := by kernel_rfl
theorem okf16 : okFn Tryz.prog 16 = true := by kernel_rfl
-- 17: corebank/corebanklaw49.Live
def code17 : FCode := ⟨0, [.tmp 0],
 (.seq (.q [(0, (.k (.b false)))])
 (.seq (.s [.bsl 10 3 1 [(.c (.i .i64 2))], .bld 11 [(.s []), (.i .i64 0), (.l [])] [(0, 1), (1, 1), (2, 1)] [(.c (.s [100, 101, 98, 116, 115])), (.c (.i .i64 (-1))), (.t 10)], .alo 1 [(.s []), (.i .i64 0), (.l [])], .sto 3 (.t 1) (.t 11)] [10, 11])
 (.seq (.d [.call (some 13) 44 [], .q 14 (.ld 3 true) [(.t 1)], .bsl 15 3 1 [(.c (.i .i64 1)), (.c (.i .i64 2))], .bld 16 [(.s []), (.i .i64 0), (.l [])] [(0, 1), (1, 1), (2, 1)] [(.c (.s [97, 108, 108])), (.c (.i .i64 1)), (.t 15)], .bsl 17 41 3 [(.t 14), (.t 16)], .call (some 18) 7 [(.t 13), (.t 17), (.c (.i .i64 6))], .mv 12 (.t 18), .ext 19 0 12, .ext 20 1 12, .as 2 (.t 19), .as 3 (.t 20)] [[], [], [], [2], [1, 2, 3], [0, 1, 2, 3, 4], [0, 1, 2, 3, 4, 5], [0, 1, 2, 3, 4, 5, 6], [0, 1, 2, 3, 4, 5, 6], [0, 1, 2, 3, 4, 5, 6, 7], [0, 1, 2, 3, 4, 5, 6, 7, 8, 9]] [13, 14, 15, 16, 17, 18, 12, 19, 20])
 (.seq (.d [.call (some 22) 44 [], .q 23 (.ld 3 true) [(.t 1)], .bsl 24 41 3 [(.t 23)], .call (some 25) 7 [(.t 22), (.t 24), (.c (.i .i64 5))], .mv 21 (.t 25), .ext 26 0 21, .ext 27 1 21, .as 4 (.t 26), .as 5 (.t 27)] [[], [], [1], [0, 1, 2], [0, 1, 2, 3], [0, 1, 2, 3, 4], [0, 1, 2, 3, 4], [0, 1, 2, 3, 4, 5], [0, 1, 2, 3, 4, 5, 6, 7]] [22, 23, 24, 25, 21, 26, 27])
 (.seq (.d [.call (some 29) 44 [], .q 30 (.ld 3 true) [(.t 1)], .call (some 31) 8 [(.t 29), (.t 30), (.c (.s [69, 85, 82])), (.c (.i .i64 6))], .mv 28 (.t 31), .ext 32 0 28, .ext 33 1 28, .as 6 (.t 32), .as 7 (.t 33)] [[], [], [0, 1], [0, 1, 2], [0, 1, 2, 3], [0, 1, 2, 3], [0, 1, 2, 3, 4], [0, 1, 2, 3, 4, 5, 6]] [29, 30, 31, 28, 32, 33])
 (.seq (.d [.call (some 35) 44 [], .q 36 (.ld 3 true) [(.t 1)], .call (some 37) 8 [(.t 35), (.t 36), (.c (.s [85, 83, 68])), (.c (.i .i64 6))], .mv 34 (.t 37), .ext 38 0 34, .ext 39 1 34, .as 8 (.t 38), .as 9 (.t 39)] [[], [], [0, 1], [0, 1, 2], [0, 1, 2, 3], [0, 1, 2, 3], [0, 1, 2, 3, 4], [0, 1, 2, 3, 4, 5, 6]] [35, 36, 37, 34, 38, 39, 8])
 (.seq (.q [(0, (.ite (.ite (.ite (.ite (.ite (.ite (.ite (.ite (.ite (.ite (.ite (.ite (.op (.bin .eql) [(.sl 3), (.k (.i .i64 0))]) (.op (.call false 45) [(.sl 2), (.op (.bsl 3) [(.op (.bld [(.s []), (.s []), (.i .i64 0)] [(0, 1), (1, 1), (2, 1)]) [(.k (.s [100, 101, 98, 116, 115])), (.k (.s [69, 85, 82])), (.k (.i .i64 500))]), (.op (.bld [(.s []), (.s []), (.i .i64 0)] [(0, 1), (1, 1)]) [(.k (.s [97, 108, 108])), (.k (.s [69, 85, 82]))])])]) (.k (.b false))) (.op (.bin .eql) [(.sl 5), (.k (.i .i64 0))]) (.k (.b false))) (.op (.bin .eql) [(.op .len [(.sl 4)]), (.k (.i .i64 1))]) (.k (.b false))) (.op (.bin .eql) [(.op (.ld 1 false) [(.op (.fa 2 1) [(.op (.ix 3) [(.sl 4), (.k (.i .i64 0))])])]), (.k (.i .i64 0))]) (.k (.b false))) (.op (.bin .eql) [(.sl 7), (.k (.i .i64 0))]) (.k (.b false))) (.op (.call false 46) [(.sl 6), (.op (.bsl 1) [(.k (.i .i64 1))])]) (.k (.b false))) (.op (.bin .eql) [(.sl 9), (.k (.i .i64 14))]) (.k (.b false))) (.op (.bin .eql) [(.op (.call false 9) [(.op (.call false 44) []), (.op (.ld 3 true) [(.sl 1)]), (.k (.s [69, 85, 82])), (.k (.i .i64 1))]), (.k (.i .i64 500))]) (.k (.b false))) (.op (.bin .eql) [(.op (.call false 47) [(.op (.call false 44) []), (.k (.i .i64 1000))]), (.k (.i .i64 21))]) (.k (.b false))) (.op (.bin .eql) [(.op (.call false 47) [(.op (.call false 44) []), (.k (.i .i64 1001))]), (.k (.i .i64 0))]) (.k (.b false))) (.op (.bin .eql) [(.op (.call false 47) [(.op (.call false 44) []), (.k (.i .i64 11))]), (.k (.i .i64 11))]) (.k (.b false))) (.op (.bin .eql) [(.op (.call false 18) [(.op (.call false 44) []), (.op (.bsl 3) [(.op (.bld [(.s []), (.i .i64 0), (.l [])] [(0, 1), (1, 1), (2, 1)]) [(.k (.s [120])), (.k (.i .i64 1)), (.op (.bsl 1) [(.k (.i .i64 1)), (.k (.i .i64 11))])])])]), (.k (.i .i64 12))]) (.k (.b false))))])
 (.ret [0]))))))))⟩
theorem comp17 : compile Tryz.prog Tryz.f17 = some code17 := by kernel_rfl
theorem okf17 : okFn Tryz.prog 17 = true := by kernel_rfl
-- 18: corebank/report.Check
def body18_1 : C :=
 (.seq (.q [(19, (.op (.bin .lss) [(.sl 18), (.sl 17)]))])
 (.seq (.cond (.sl 19) .skip (.exit 0 []))
 (.seq (.blk 1 (.seq (.s [.ix 20 3 (.t 16) (.t 18), .q 21 (.ld 3 true) [(.t 20)], .alo 6 [(.s []), (.i .i64 0), (.l [])], .sto 3 (.t 6) (.t 21)] [20, 21])
 (.seq (.blk 2 (.seq (.q [(22, (.op (.un .not) [(.op (.call false 48) [(.op (.ld 1 false) [(.op (.fa 0 1) [(.sl 6)])])])]))])
 (.cond (.sl 22) (.seq (.q [(4, (.k (.i .i64 4)))])
 (.ret [4])) (.seq (.q [(27, (.ite (.op (.bin .neq) [(.op (.ld 1 false) [(.op (.fa 1 1) [(.sl 6)])]), (.k (.i .i64 1))]) (.op (.bin .neq) [(.op (.ld 1 false) [(.op (.fa 1 1) [(.sl 6)])]), (.k (.i .i64 (-1)))]) (.k (.b false))))])
 (.cond (.sl 27) (.seq (.q [(4, (.k (.i .i64 1)))])
 (.ret [4])) .skip)))))
 (.seq (.q [(7, (.op (.call false 49) [(.op (.ld 22 true) [(.sl 2)]), (.op (.ld 1 false) [(.op (.fa 2 1) [(.sl 6)])])]))])
 (.seq (.q [(41, (.op (.bin .neq) [(.sl 7), (.k (.i .i64 0))]))])
 (.cond (.sl 41) (.seq (.q [(4, (.sl 7))])
 (.ret [4])) .skip))))))
 (.q [(18, (.op (.bin .add) [(.sl 18), (.k (.i .i64 1))]))]))))
def code18 : FCode := ⟨2, [.tmp 4],
 (.seq (.s [.box 2 (.t 0), .as 4 (.c (.i .i64 0))] [])
 (.seq (.seq (.q [(15, (.ite (.op (.bin .lss) [(.op .len [(.sl 1)]), (.k (.i .i64 1))]) (.k (.b true)) (.op (.bin .gtr) [(.op .len [(.sl 1)]), (.k (.i .i64 64))])))])
 (.cond (.sl 15) (.seq (.q [(4, (.k (.i .i64 5)))])
 (.ret [4])) .skip))
 (.seq (.seq (.s [.mv 16 (.t 1), .q 17 .len [(.t 16)], .mv 18 (.c (.i .i64 0))] [])
 (.blk 0 (.loop [2, 16, 17, 18] body18_1)))
 (.seq (.q [(4, (.k (.i .i64 0)))])
 (.ret [4])))))⟩
theorem comp18 : compile Tryz.prog Tryz.f18 = some code18 := by kernel_rfl
theorem okf18 : okFn Tryz.prog 18 = true := by kernel_rfl
-- 19: corebank/report.amounts
def body19_1 : C :=
 (.seq (.q [(15, (.op (.bin .lss) [(.sl 14), (.sl 13)]))])
 (.seq (.cond (.sl 15) .skip (.exit 0 [7]))
 (.seq (.blk 1 (.seq (.s [.ix 16 3 (.t 12) (.t 14), .q 17 (.ld 3 true) [(.t 16)], .alo 9 [(.i .i64 0), (.i .i64 0), (.s [])], .sto 3 (.t 9) (.t 17)] [16, 17])
 (.seq (.q [(22, (.op (.call false 50) [(.op (.ld 22 true) [(.sl 3)]), (.op (.ld 3 true) [(.sl 4)]), (.op (.ld 1 false) [(.op (.fa 0 1) [(.sl 9)])])]))])
 (.cond (.sl 22) (.s [.mv 23 (.t 7), .fa 24 2 1 (.t 9), .q 25 (.ld 1 false) [(.t 24)], .mget 26 1 (.i .i64 0) (.t 23) (.t 25), .fa 27 1 1 (.t 4), .q 28 (.ld 1 false) [(.t 27)], .fa 29 1 1 (.t 9), .q 30 (.ld 1 false) [(.t 29)], .q 31 (.bin .mul) [(.t 28), (.t 30)], .q 32 (.bin .add) [(.t 26), (.t 31)], .mset 1 (.t 23) (.t 25) (.t 32)] [23, 24, 25, 26, 27, 28, 29, 30, 31, 32]) .skip))))
 (.q [(14, (.op (.bin .add) [(.sl 14), (.k (.i .i64 1))]))]))))
def code19 : FCode := ⟨3, [.tmp 6],
 (.seq (.s [.box 3 (.t 0), .box 4 (.t 1), .box 5 (.t 2), .as 6 (.c .um)] [])
 (.seq (.s [.mkm 10, .as 7 (.t 10)] [10])
 (.seq (.seq (.s [.fa 11 8 1 (.t 5), .q 12 (.ld 1 false) [(.t 11)], .q 13 .len [(.t 12)], .mv 14 (.c (.i .i64 0))] [11])
 (.blk 0 (.loop [3, 4, 7, 12, 13, 14] body19_1)))
 (.seq (.s [.mv 34 (.t 7), .as 6 (.t 34)] [34])
 (.ret [6])))))⟩
theorem comp19 : compile Tryz.prog Tryz.f19 = some code19 := by kernel_rfl
theorem okf19 : okFn Tryz.prog 19 = true := by kernel_rfl
-- 20: corebank/money.Valid
def code20 : FCode := ⟨1, [.tmp 2],
 (.seq (.q [(2, (.k (.b false)))])
 (.seq (.q [(2, (.ite (.op (.bin .geq) [(.sl 0), (.k (.i .i64 (-1000000000000)))]) (.op (.bin .leq) [(.sl 0), (.k (.i .i64 1000000000000))]) (.k (.b false))))])
 (.ret [2])))⟩
theorem comp20 : compile Tryz.prog Tryz.f20 = some code20 := by kernel_rfl
theorem okf20 : okFn Tryz.prog 20 = true := by kernel_rfl
-- 21: corebank/money.Find
def body21_1 : C :=
 (.seq (.q [(11, (.op (.bin .lss) [(.sl 10), (.sl 9)]))])
 (.seq (.cond (.sl 11) .skip (.exit 0 [4]))
 (.seq (.blk 1 (.seq (.s [.ix 12 2 (.t 8) (.t 10), .q 13 (.ld 2 true) [(.t 12)], .alo 7 [(.s []), (.i .i64 0)], .sto 2 (.t 7) (.t 13)] [12, 13])
 (.seq (.q [(17, (.op (.bin .eql) [(.op (.ld 1 false) [(.op (.fa 0 1) [(.sl 7)])]), (.sl 1)]))])
 (.cond (.sl 17) (.seq (.s [.q 18 (.ld 2 true) [(.t 7)], .sto 2 (.t 4) (.t 18), .as 5 (.c (.b true))] [18])
 (.ret [4, 5])) .skip))))
 (.q [(10, (.op (.bin .add) [(.sl 10), (.k (.i .i64 1))]))]))))
def code21 : FCode := ⟨2, [.cell 4 2 true, .tmp 5],
 (.seq (.s [.alo 4 [(.s []), (.i .i64 0)], .as 5 (.c (.b false))] [])
 (.seq (.seq (.s [.mv 8 (.t 0), .q 9 .len [(.t 8)], .mv 10 (.c (.i .i64 0))] [])
 (.blk 0 (.loop [1, 4, 8, 9, 10] body21_1)))
 (.seq (.s [.bld 20 [(.s []), (.i .i64 0)] [] [], .sto 2 (.t 4) (.t 20), .as 5 (.c (.b false))] [20])
 (.ret [4, 5]))))⟩
theorem comp21 : compile Tryz.prog Tryz.f21 = some code21 := by kernel_rfl
theorem okf21 : okFn Tryz.prog 21 = true := by kernel_rfl
-- 36: corebank/corebankref03.Check
def body36_1 : C :=
 (.seq (.seq (.q [(15, (.op (.bin .lss) [(.sl 3), (.op .len [(.sl 0)])]))])
 (.cond (.sl 15) .skip (.exit 0 [])))
 (.seq (.blk 1 (.seq (.seq (.q [(24, (.op (.un .not) [(.op (.call false 74) [(.op (.ld 1 false) [(.op (.fa 0 1) [(.op (.ix 2) [(.sl 0), (.sl 3)])])])])]))])
 (.cond (.sl 24) (.seq (.q [(2, (.k (.i .i64 4)))])
 (.ret [2])) .skip))
 (.seq (.seq (.q [(38, (.ite (.op (.bin .lss) [(.op (.ld 1 false) [(.op (.fa 1 1) [(.op (.ix 2) [(.sl 0), (.sl 3)])])]), (.k (.i .i64 0))]) (.k (.b true)) (.op (.bin .gtr) [(.op (.ld 1 false) [(.op (.fa 1 1) [(.op (.ix 2) [(.sl 0), (.sl 3)])])]), (.k (.i .i64 4))])))])
 (.cond (.sl 38) (.seq (.q [(2, (.k (.i .i64 1)))])
 (.ret [2])) .skip))
 (.seq (.q [(54, (.ite (.op (.bin .gtr) [(.sl 3), (.k (.i .i64 0))]) (.op (.bin .leq) [(.op (.ld 1 false) [(.op (.fa 0 1) [(.op (.ix 2) [(.sl 0), (.sl 3)])])]), (.op (.ld 1 false) [(.op (.fa 0 1) [(.op (.ix 2) [(.sl 0), (.op (.bin .sub) [(.sl 3), (.k (.i .i64 1))])])])])]) (.k (.b false))))])
 (.cond (.sl 54) (.seq (.q [(2, (.k (.i .i64 10)))])
 (.ret [2])) .skip)))))
 (.q [(3, (.op (.bin .add) [(.sl 3), (.k (.i .i64 1))]))])))
def code36 : FCode := ⟨1, [.tmp 2],
 (.seq (.q [(2, (.k (.i .i64 0)))])
 (.seq (.seq (.q [(11, (.ite (.op (.bin .lss) [(.op .len [(.sl 0)]), (.k (.i .i64 1))]) (.k (.b true)) (.op (.bin .gtr) [(.op .len [(.sl 0)]), (.k (.i .i64 8))])))])
 (.cond (.sl 11) (.seq (.q [(2, (.k (.i .i64 5)))])
 (.ret [2])) .skip))
 (.seq (.seq (.q [(3, (.k (.i .i64 0)))])
 (.blk 0 (.loop [0, 3] body36_1)))
 (.seq (.q [(2, (.k (.i .i64 0)))])
 (.ret [2])))))⟩
theorem comp36 : compile Tryz.prog Tryz.f36 = some code36 := by kernel_rfl
theorem okf36 : okFn Tryz.prog 36 = true := by kernel_rfl
-- 37: corebank/corebankref26.calendars
def body37_1 : C :=
 (.seq (.seq (.q [(8, (.op (.bin .lss) [(.sl 3), (.op .len [(.sl 0)])]))])
 (.cond (.sl 8) .skip (.exit 0 [])))
 (.seq (.blk 1 (.seq (.q [(4, (.op (.call false 75) [(.op (.ld 3 true) [(.op (.ix 3) [(.sl 0), (.sl 3)])])]))])
 (.seq (.seq (.q [(17, (.op (.bin .neq) [(.sl 4), (.k (.i .i64 0))]))])
 (.cond (.sl 17) (.seq (.q [(2, (.sl 4))])
 (.ret [2])) .skip))
 (.seq (.q [(34, (.ite (.op (.bin .gtr) [(.sl 3), (.k (.i .i64 0))]) (.op (.bin .leq) [(.op (.ld 1 false) [(.op (.fa 0 1) [(.op (.ix 3) [(.sl 0), (.sl 3)])])]), (.op (.ld 1 false) [(.op (.fa 0 1) [(.op (.ix 3) [(.sl 0), (.op (.bin .sub) [(.sl 3), (.k (.i .i64 1))])])])])]) (.k (.b false))))])
 (.cond (.sl 34) (.seq (.q [(2, (.k (.i .i64 10)))])
 (.ret [2])) .skip)))))
 (.q [(3, (.op (.bin .add) [(.sl 3), (.k (.i .i64 1))]))])))
def code37 : FCode := ⟨1, [.tmp 2],
 (.seq (.q [(2, (.k (.i .i64 0)))])
 (.seq (.seq (.q [(3, (.k (.i .i64 0)))])
 (.blk 0 (.loop [0, 3] body37_1)))
 (.seq (.q [(2, (.k (.i .i64 0)))])
 (.ret [2]))))⟩
theorem comp37 : compile Tryz.prog Tryz.f37 = some code37 := by kernel_rfl
theorem okf37 : okFn Tryz.prog 37 = true := by kernel_rfl
-- 38: corebank/corebankref18.Check
def body38_1 : C :=
 (.seq (.seq (.q [(24, (.op (.bin .lss) [(.sl 5), (.op .len [(.sl 0)])]))])
 (.cond (.sl 24) .skip (.exit 0 [0, 3])))
 (.seq (.blk 1 (.seq (.s [.mv 27 (.t 0), .mv 28 (.t 5), .ix 29 4 (.t 27) (.t 28), .q 30 (.ld 4 true) [(.t 29)], .alo 6 [(.i .i64 0), (.i .i64 0), (.i .i64 0), (.s [])], .sto 4 (.t 6) (.t 30)] [27, 28, 29, 30])
 (.seq (.seq (.q [(48, (.ite (.ite (.ite (.op (.bin .lss) [(.op (.ld 1 false) [(.op (.fa 0 1) [(.sl 6)])]), (.k (.i .i64 1))]) (.k (.b true)) (.op (.bin .gtr) [(.op (.ld 1 false) [(.op (.fa 0 1) [(.sl 6)])]), (.k (.i .i64 999))])) (.k (.b true)) (.op (.bin .lss) [(.op (.ld 1 false) [(.op (.fa 2 1) [(.sl 6)])]), (.k (.i .i64 1))])) (.k (.b true)) (.op (.bin .gtr) [(.op (.ld 1 false) [(.op (.fa 2 1) [(.sl 6)])]), (.k (.i .i64 5))])))])
 (.cond (.sl 48) (.seq (.q [(4, (.k (.i .i64 1)))])
 (.ret [4])) .skip))
 (.seq (.seq (.q [(61, (.ite (.op (.bin .gtr) [(.sl 5), (.k (.i .i64 0))]) (.op (.bin .leq) [(.op (.ld 1 false) [(.op (.fa 0 1) [(.sl 6)])]), (.op (.ld 1 false) [(.op (.fa 0 1) [(.op (.ix 4) [(.sl 0), (.op (.bin .sub) [(.sl 5), (.k (.i .i64 1))])])])])]) (.k (.b false))))])
 (.cond (.sl 61) (.seq (.q [(4, (.k (.i .i64 10)))])
 (.ret [4])) .skip))
 (.seq (.seq (.q [(65, (.op (.un .not) [(.op (.call false 76) [(.op (.ld 1 false) [(.op (.fa 3 1) [(.sl 6)])])])]))])
 (.cond (.sl 65) (.seq (.q [(4, (.k (.i .i64 4)))])
 (.ret [4])) .skip))
 (.seq (.seq (.q [(68, (.op (.bin .eql) [(.op (.ld 1 false) [(.op (.fa 1 1) [(.sl 6)])]), (.k (.i .i64 0))]))])
 (.cond (.sl 68) (.exit 1 [0, 3, 5]) .skip))
 (.seq (.d [.mv 70 (.t 0), .mv 71 (.t 5), .slc 72 4 false true [(.t 70), (.t 71)], .fa 73 1 1 (.t 6), .q 74 (.ld 1 false) [(.t 73)], .call (some 75) 77 [(.t 72), (.t 74)], .mv 69 (.t 75), .ext 76 0 69, .ext 77 1 69, .alo 7 [(.i .i64 0), (.i .i64 0), (.i .i64 0), (.s [])], .sto 4 (.t 7) (.t 76), .as 8 (.t 77)] [[], [], [0, 1], [], [3], [0, 1, 2, 3, 4], [0, 1, 2, 3, 4, 5], [0, 1, 2, 3, 4, 5, 6], [0, 1, 2, 3, 4, 5, 6], [], [0, 1, 2, 3, 4, 5, 6, 7, 9], [0, 1, 2, 3, 4, 5, 6, 7, 8, 9, 10]] [70, 71, 72, 73, 74, 75, 69, 76, 77])
 (.seq (.seq (.q [(79, (.op (.un .not) [(.sl 8)]))])
 (.cond (.sl 79) (.seq (.q [(4, (.k (.i .i64 11)))])
 (.ret [4])) .skip))
 (.seq (.q [(84, (.op (.bin .neq) [(.op (.ld 1 false) [(.op (.fa 2 1) [(.sl 7)])]), (.op (.ld 1 false) [(.op (.fa 2 1) [(.sl 6)])])]))])
 (.cond (.sl 84) (.seq (.q [(4, (.k (.i .i64 3)))])
 (.ret [4])) .skip))))))))))
 (.q [(5, (.op (.bin .add) [(.sl 5), (.k (.i .i64 1))]))])))
def body38_2 : C :=
 (.seq (.seq (.q [(118, (.op (.bin .lss) [(.sl 11), (.op .len [(.sl 9)])]))])
 (.cond (.sl 118) .skip (.exit 2 [])))
 (.seq (.blk 3 (.seq (.q [(12, (.op (.call true 78) [(.sl 0), (.op (.ld 1 false) [(.op (.ix 1) [(.sl 9), (.sl 11)])]), (.op (.ld 1 false) [(.op (.ix 1) [(.sl 10), (.sl 11)])])]))])
 (.seq (.q [(132, (.op (.bin .neq) [(.sl 12), (.k (.i .i64 0))]))])
 (.cond (.sl 132) (.seq (.q [(4, (.sl 12))])
 (.ret [4])) .skip))))
 (.q [(11, (.op (.bin .add) [(.sl 11), (.k (.i .i64 1))]))])))
def code38 : FCode := ⟨2, [.tmp 4],
 (.seq (.s [.box 3 (.t 1), .as 4 (.c (.i .i64 0))] [])
 (.seq (.seq (.q [(20, (.ite (.op (.bin .lss) [(.op .len [(.sl 0)]), (.k (.i .i64 1))]) (.k (.b true)) (.op (.bin .gtr) [(.op .len [(.sl 0)]), (.k (.i .i64 40))])))])
 (.cond (.sl 20) (.seq (.q [(4, (.k (.i .i64 5)))])
 (.ret [4])) .skip))
 (.seq (.seq (.q [(5, (.k (.i .i64 0)))])
 (.blk 0 (.loop [0, 3, 5] body38_1)))
 (.seq (.s [.fa 85 0 1 (.t 3), .q 86 (.ld 1 false) [(.t 85)], .fa 87 1 1 (.t 3), .q 88 (.ld 1 false) [(.t 87)], .fa 89 2 1 (.t 3), .q 90 (.ld 1 false) [(.t 89)], .fa 91 3 1 (.t 3), .q 92 (.ld 1 false) [(.t 91)], .fa 93 4 1 (.t 3), .q 94 (.ld 1 false) [(.t 93)], .fa 95 5 1 (.t 3), .q 96 (.ld 1 false) [(.t 95)], .fa 97 6 1 (.t 3), .q 98 (.ld 1 false) [(.t 97)], .fa 99 7 1 (.t 3), .q 100 (.ld 1 false) [(.t 99)], .fa 101 8 1 (.t 3), .q 102 (.ld 1 false) [(.t 101)], .fa 103 9 1 (.t 3), .q 104 (.ld 1 false) [(.t 103)], .fa 105 10 1 (.t 3), .q 106 (.ld 1 false) [(.t 105)], .fa 107 11 1 (.t 3), .q 108 (.ld 1 false) [(.t 107)], .fa 109 12 1 (.t 3), .q 110 (.ld 1 false) [(.t 109)], .fa 111 13 1 (.t 3), .q 112 (.ld 1 false) [(.t 111)], .bsl 113 3 1 [(.t 86), (.t 88), (.t 90), (.t 92), (.t 94), (.t 96), (.t 98), (.t 100), (.t 102), (.t 104), (.t 106), (.t 108), (.t 110), (.t 112)], .as 9 (.t 113)] [85, 86, 87, 88, 89, 90, 91, 92, 93, 94, 95, 96, 97, 98, 99, 100, 101, 102, 103, 104, 105, 106, 107, 108, 109, 110, 111, 112, 113])
 (.seq (.s [.bsl 114 3 1 [(.c (.i .i64 1)), (.c (.i .i64 2)), (.c (.i .i64 5)), (.c (.i .i64 4)), (.c (.i .i64 4)), (.c (.i .i64 2)), (.c (.i .i64 1)), (.c (.i .i64 1)), (.c (.i .i64 4)), (.c (.i .i64 4)), (.c (.i .i64 2)), (.c (.i .i64 5)), (.c (.i .i64 5)), (.c (.i .i64 4))], .as 10 (.t 114)] [114])
 (.seq (.seq (.q [(11, (.k (.i .i64 0)))])
 (.blk 2 (.loop [0, 9, 10, 11] body38_2)))
 (.seq (.q [(4, (.k (.i .i64 0)))])
 (.ret [4]))))))))⟩
theorem comp38 : compile Tryz.prog Tryz.f38 = some code38 := by kernel_rfl
theorem okf38 : okFn Tryz.prog 38 = true := by kernel_rfl
-- 39: corebank/corebankref26.products
def body39_1 : C :=
 (.seq (.seq (.q [(16, (.ite (.op (.bin .lss) [(.sl 4), (.op .len [(.op (.ld 1 false) [(.op (.fa 17 1) [(.sl 1)])])])]) (.op (.bin .eql) [(.sl 3), (.k (.i .i64 0))]) (.k (.b false))))])
 (.cond (.sl 16) .skip (.exit 0 [3])))
 (.seq (.blk 1 (.q [(3, (.op (.call true 80) [(.op (.ld 19 true) [(.op (.ix 19) [(.op (.ld 1 false) [(.op (.fa 17 1) [(.sl 1)])]), (.sl 4)])]), (.op (.ld 1 false) [(.op (.fa 0 1) [(.sl 1)])]), (.op (.ld 1 false) [(.op (.fa 1 1) [(.sl 1)])])]))]))
 (.q [(4, (.op (.bin .add) [(.sl 4), (.k (.i .i64 1))]))])))
def code39 : FCode := ⟨1, [.tmp 2],
 (.seq (.s [.box 1 (.t 0), .as 2 (.c (.i .i64 0))] [])
 (.seq (.q [(3, (.op (.call false 79) [(.op (.ld 1 false) [(.op (.fa 17 1) [(.sl 1)])])]))])
 (.seq (.seq (.q [(4, (.k (.i .i64 0)))])
 (.blk 0 (.loop [1, 3, 4] body39_1)))
 (.seq (.q [(2, (.sl 3))])
 (.ret [2])))))⟩
theorem comp39 : compile Tryz.prog Tryz.f39 = some code39 := by kernel_rfl
theorem okf39 : okFn Tryz.prog 39 = true := by kernel_rfl
-- 40: corebank/corebankref24.Check
def body40_1 : C :=
 (.seq (.seq (.q [(15, (.op (.bin .lss) [(.sl 3), (.op .len [(.op (.ld 1 false) [(.op (.fa 18 1) [(.sl 1)])])])]))])
 (.cond (.sl 15) .skip (.exit 0 [])))
 (.seq (.blk 1 (.seq (.s [.fa 18 18 1 (.t 1), .q 19 (.ld 1 false) [(.t 18)], .mv 20 (.t 3), .ix 21 7 (.t 19) (.t 20), .q 22 (.ld 7 true) [(.t 21)], .alo 4 [(.i .i64 0), (.i .i64 0), (.i .i64 0), (.i .i64 0), (.s []), (.s []), (.s [])], .sto 7 (.t 4) (.t 22)] [18, 19, 20, 21, 22])
 (.seq (.q [(5, (.ite (.op (.bin .eql) [(.op (.ld 1 false) [(.op (.fa 2 1) [(.sl 4)])]), (.k (.i .i64 0))]) (.k (.b true)) (.ite (.op (.call false 81) [(.op (.ld 1 false) [(.op (.fa 2 1) [(.sl 4)])])]) (.op (.bin .geq) [(.op (.ld 1 false) [(.op (.fa 2 1) [(.sl 4)])]), (.op (.ld 1 false) [(.op (.fa 1 1) [(.sl 4)])])]) (.k (.b false)))))])
 (.seq (.seq (.q [(54, (.ite (.ite (.ite (.op (.un .not) [(.op (.call false 82) [(.op (.ld 7 true) [(.sl 4)])])]) (.k (.b true)) (.op (.un .not) [(.sl 5)])) (.k (.b true)) (.op (.bin .lss) [(.op (.ld 1 false) [(.op (.fa 3 1) [(.sl 4)])]), (.k (.i .i64 0))])) (.k (.b true)) (.op (.bin .gtr) [(.op (.ld 1 false) [(.op (.fa 3 1) [(.sl 4)])]), (.k (.i .i64 1000000000000))])))])
 (.cond (.sl 54) (.seq (.q [(2, (.k (.i .i64 1)))])
 (.ret [2])) .skip))
 (.seq (.seq (.q [(68, (.ite (.op (.bin .gtr) [(.sl 3), (.k (.i .i64 0))]) (.op (.bin .leq) [(.op (.ld 1 false) [(.op (.fa 0 1) [(.sl 4)])]), (.op (.ld 1 false) [(.op (.fa 0 1) [(.op (.ix 7) [(.op (.ld 1 false) [(.op (.fa 18 1) [(.sl 1)])]), (.op (.bin .sub) [(.sl 3), (.k (.i .i64 1))])])])])]) (.k (.b false))))])
 (.cond (.sl 68) (.seq (.q [(2, (.k (.i .i64 10)))])
 (.ret [2])) .skip))
 (.seq (.q [(6, (.op (.call false 83) [(.op (.ld 22 true) [(.sl 1)]), (.op (.ld 7 true) [(.sl 4)])]))])
 (.seq (.q [(73, (.op (.bin .neq) [(.sl 6), (.k (.i .i64 0))]))])
 (.cond (.sl 73) (.seq (.q [(2, (.sl 6))])
 (.ret [2])) .skip))))))))
 (.q [(3, (.op (.bin .add) [(.sl 3), (.k (.i .i64 1))]))])))
def code40 : FCode := ⟨1, [.tmp 2],
 (.seq (.s [.box 1 (.t 0), .as 2 (.c (.i .i64 0))] [])
 (.seq (.seq (.q [(10, (.op (.bin .gtr) [(.op .len [(.op (.ld 1 false) [(.op (.fa 18 1) [(.sl 1)])])]), (.k (.i .i64 64))]))])
 (.cond (.sl 10) (.seq (.q [(2, (.k (.i .i64 5)))])
 (.ret [2])) .skip))
 (.seq (.seq (.q [(3, (.k (.i .i64 0)))])
 (.blk 0 (.loop [1, 3] body40_1)))
 (.seq (.q [(2, (.k (.i .i64 0)))])
 (.ret [2])))))⟩
theorem comp40 : compile Tryz.prog Tryz.f40 = some code40 := by kernel_rfl
theorem okf40 : okFn Tryz.prog 40 = true := by kernel_rfl
-- 41: corebank/corebankref26.entries
def body41_1 : C :=
 (.seq (.seq (.q [(12, (.op (.bin .lss) [(.sl 3), (.op .len [(.op (.ld 1 false) [(.op (.fa 19 1) [(.sl 1)])])])]))])
 (.cond (.sl 12) .skip (.exit 0 [])))
 (.seq (.blk 1 (.seq (.q [(22, (.op (.bin .neq) [(.op (.call true 85) [(.op (.ld 22 true) [(.sl 1)]), (.op (.ld 10 true) [(.op (.ix 10) [(.op (.ld 1 false) [(.op (.fa 19 1) [(.sl 1)])]), (.sl 3)])])]), (.k (.i .i64 0))]))])
 (.cond (.sl 22) (.seq (.q [(2, (.k (.i .i64 25)))])
 (.ret [2])) .skip)))
 (.q [(3, (.op (.bin .add) [(.sl 3), (.k (.i .i64 1))]))])))
def code41 : FCode := ⟨1, [.tmp 2],
 (.seq (.s [.box 1 (.t 0), .as 2 (.c (.i .i64 0))] [])
 (.seq (.seq (.q [(7, (.op (.bin .neq) [(.op (.call false 84) [(.op (.ld 1 false) [(.op (.fa 19 1) [(.sl 1)])])]), (.k (.i .i64 (-1)))]))])
 (.cond (.sl 7) (.seq (.q [(2, (.k (.i .i64 25)))])
 (.ret [2])) .skip))
 (.seq (.seq (.q [(3, (.k (.i .i64 0)))])
 (.blk 0 (.loop [1, 3] body41_1)))
 (.seq (.q [(2, (.k (.i .i64 0)))])
 (.ret [2])))))⟩
theorem comp41 : compile Tryz.prog Tryz.f41 = some code41 := by kernel_rfl
theorem okf41 : okFn Tryz.prog 41 = true := by kernel_rfl
-- 42: corebank/corebankref22.Check
def body42_1 : C :=
 (.seq (.seq (.q [(11, (.op (.bin .lss) [(.sl 3), (.op .len [(.sl 0)])]))])
 (.cond (.sl 11) .skip (.exit 0 [])))
 (.seq (.blk 1 (.seq (.seq (.q [(4, (.op (.call false 86) [(.op (.ld 6 true) [(.op (.ix 6) [(.sl 0), (.sl 3)])])]))])
 (.seq (.q [(20, (.op (.bin .neq) [(.sl 4), (.k (.i .i64 0))]))])
 (.cond (.sl 20) (.seq (.q [(2, (.sl 4))])
 (.ret [2])) .skip)))
 (.seq (.seq (.q [(37, (.ite (.op (.bin .gtr) [(.sl 3), (.k (.i .i64 0))]) (.op (.bin .leq) [(.op (.ld 1 false) [(.op (.fa 0 1) [(.op (.ix 6) [(.sl 0), (.sl 3)])])]), (.op (.ld 1 false) [(.op (.fa 0 1) [(.op (.ix 6) [(.sl 0), (.op (.bin .sub) [(.sl 3), (.k (.i .i64 1))])])])])]) (.k (.b false))))])
 (.cond (.sl 37) (.seq (.q [(2, (.k (.i .i64 10)))])
 (.ret [2])) .skip))
 (.seq (.q [(46, (.op (.call true 87) [(.op (.slc 6 false true) [(.sl 0), (.sl 3)]), (.op (.ld 1 false) [(.op (.fa 5 1) [(.op (.ix 6) [(.sl 0), (.sl 3)])])])]))])
 (.cond (.sl 46) (.seq (.q [(2, (.k (.i .i64 12)))])
 (.ret [2])) .skip)))))
 (.q [(3, (.op (.bin .add) [(.sl 3), (.k (.i .i64 1))]))])))
def code42 : FCode := ⟨1, [.tmp 2],
 (.seq (.q [(2, (.k (.i .i64 0)))])
 (.seq (.seq (.q [(7, (.op (.bin .gtr) [(.op .len [(.sl 0)]), (.k (.i .i64 64))]))])
 (.cond (.sl 7) (.seq (.q [(2, (.k (.i .i64 5)))])
 (.ret [2])) .skip))
 (.seq (.seq (.q [(3, (.k (.i .i64 0)))])
 (.blk 0 (.loop [0, 3] body42_1)))
 (.seq (.q [(2, (.k (.i .i64 0)))])
 (.ret [2])))))⟩
theorem comp42 : compile Tryz.prog Tryz.f42 = some code42 := by kernel_rfl
theorem okf42 : okFn Tryz.prog 42 = true := by kernel_rfl
-- 43: corebank/corebankref23.Check
def body43_1 : C :=
 (.seq (.seq (.q [(10, (.op (.bin .lss) [(.sl 3), (.op .len [(.sl 0)])]))])
 (.cond (.sl 10) .skip (.exit 0 [])))
 (.seq (.blk 1 (.seq (.seq (.q [(18, (.op (.un .not) [(.op (.call false 88) [(.op (.ld 7 true) [(.op (.ix 7) [(.sl 0), (.sl 3)])])])]))])
 (.cond (.sl 18) (.seq (.q [(2, (.k (.i .i64 1)))])
 (.ret [2])) .skip))
 (.seq (.seq (.q [(25, (.op (.un .not) [(.op (.call false 89) [(.op (.ld 1 false) [(.op (.fa 6 1) [(.op (.ix 7) [(.sl 0), (.sl 3)])])])])]))])
 (.cond (.sl 25) (.seq (.q [(2, (.k (.i .i64 4)))])
 (.ret [2])) .skip))
 (.seq (.q [(41, (.ite (.op (.bin .gtr) [(.sl 3), (.k (.i .i64 0))]) (.op (.bin .leq) [(.op (.ld 1 false) [(.op (.fa 0 1) [(.op (.ix 7) [(.sl 0), (.sl 3)])])]), (.op (.ld 1 false) [(.op (.fa 0 1) [(.op (.ix 7) [(.sl 0), (.op (.bin .sub) [(.sl 3), (.k (.i .i64 1))])])])])]) (.k (.b false))))])
 (.cond (.sl 41) (.seq (.q [(2, (.k (.i .i64 10)))])
 (.ret [2])) .skip)))))
 (.q [(3, (.op (.bin .add) [(.sl 3), (.k (.i .i64 1))]))])))
def code43 : FCode := ⟨1, [.tmp 2],
 (.seq (.q [(2, (.k (.i .i64 0)))])
 (.seq (.seq (.q [(6, (.op (.bin .gtr) [(.op .len [(.sl 0)]), (.k (.i .i64 64))]))])
 (.cond (.sl 6) (.seq (.q [(2, (.k (.i .i64 5)))])
 (.ret [2])) .skip))
 (.seq (.seq (.q [(3, (.k (.i .i64 0)))])
 (.blk 0 (.loop [0, 3] body43_1)))
 (.seq (.q [(2, (.k (.i .i64 0)))])
 (.ret [2])))))⟩
theorem comp43 : compile Tryz.prog Tryz.f43 = some code43 := by kernel_rfl
theorem okf43 : okFn Tryz.prog 43 = true := by kernel_rfl
-- 44: corebank/corebanklaw49.books
def code44 : FCode := ⟨0, [.cell 0 22 true],
 (.seq (.s [.alo 0 [(.l []), (.l []), (.l []), (.i .i64 0), (.i .i64 0), (.i .i64 0), (.i .i64 0), (.i .i64 0), (.i .i64 0), (.i .i64 0), (.i .i64 0), (.i .i64 0), (.i .i64 0), (.i .i64 0), (.i .i64 0), (.i .i64 0), (.i .i64 0), (.l []), (.l []), (.l []), (.l []), (.l [])]] [])
 (.seq (.s [.bld 3 [(.i .i64 0), (.i .i64 0), (.s [])] [(0, 1), (1, 1), (2, 1)] [(.c (.i .i64 11)), (.c (.i .i64 500)), (.c (.s [69, 85, 82]))], .bld 4 [(.i .i64 0), (.i .i64 0), (.s [])] [(0, 1), (1, 1), (2, 1)] [(.c (.i .i64 1000)), (.c (.i .i64 (-500))), (.c (.s [69, 85, 82]))], .bsl 5 61 3 [(.t 3), (.t 4)], .bld 6 [(.i .i64 0), (.i .i64 0), (.i .i64 0), (.i .i64 0), (.i .i64 0), (.i .i64 0), (.s []), (.s []), (.l []), (.i .u64 0)] [(0, 1), (1, 1), (2, 1), (3, 1), (6, 1), (8, 1)] [(.c (.i .i64 1)), (.c (.i .i64 6)), (.c (.i .i64 6)), (.c (.i .i64 1)), (.c (.s [100])), (.t 5)], .alo 1 [(.i .i64 0), (.i .i64 0), (.i .i64 0), (.i .i64 0), (.i .i64 0), (.i .i64 0), (.s []), (.s []), (.l []), (.i .u64 0)], .sto 10 (.t 1) (.t 6)] [3, 4, 5, 6])
 (.seq (.s [.bld 7 [(.i .i64 0), (.i .i64 0), (.i .i64 0), (.s [])] [(0, 1), (2, 1), (3, 1)] [(.c (.i .i64 1)), (.c (.i .i64 1)), (.c (.s [97, 115, 115, 101, 116, 115]))], .bld 8 [(.i .i64 0), (.i .i64 0), (.i .i64 0), (.s [])] [(0, 1), (2, 1), (3, 1)] [(.c (.i .i64 2)), (.c (.i .i64 2)), (.c (.s [100, 101, 98, 116, 115]))], .bld 9 [(.i .i64 0), (.i .i64 0), (.i .i64 0), (.s [])] [(0, 1), (1, 1), (2, 1), (3, 1)] [(.c (.i .i64 11)), (.c (.i .i64 1)), (.c (.i .i64 1)), (.c (.s [99, 97, 115, 104]))], .bld 10 [(.i .i64 0), (.i .i64 0), (.i .i64 0), (.s [])] [(0, 1), (1, 1), (2, 1), (3, 1)] [(.c (.i .i64 21)), (.c (.i .i64 2)), (.c (.i .i64 2)), (.c (.s [100, 101, 112, 111, 115, 105, 116, 115]))], .bsl 11 38 4 [(.t 7), (.t 8), (.t 9), (.t 10)], .as 2 (.t 11)] [7, 8, 9, 10, 11])
 (.seq (.s [.bld 12 [(.s []), (.i .i64 0)] [(0, 1), (1, 1)] [(.c (.s [69, 85, 82])), (.c (.i .i64 2))], .bsl 13 52 2 [(.t 12)], .mv 14 (.t 2), .bld 15 [(.i .i64 0), (.i .i64 0), (.i .i64 0), (.i .i64 0), (.i .i64 0), (.i .i64 0), (.i .i64 0), (.i .i64 0), (.i .i64 0), (.i .i64 0), (.i .i64 0), (.i .i64 0), (.i .i64 0), (.i .i64 0)] [(1, 1)] [(.c (.i .i64 21))], .bld 16 [(.i .i64 0), (.i .i64 0), (.i .i64 0), (.i .i64 0), (.s []), (.s []), (.s [])] [(0, 1), (4, 1), (5, 1)] [(.c (.i .i64 1000)), (.c (.s [97, 110, 110])), (.c (.s [98, 97, 115, 105, 99]))], .bsl 17 117 7 [(.t 16)], .q 18 (.ld 10 true) [(.t 1)], .bsl 19 59 10 [(.t 18)], .bld 20 [(.l []), (.l []), (.l []), (.i .i64 0), (.i .i64 0), (.i .i64 0), (.i .i64 0), (.i .i64 0), (.i .i64 0), (.i .i64 0), (.i .i64 0), (.i .i64 0), (.i .i64 0), (.i .i64 0), (.i .i64 0), (.i .i64 0), (.i .i64 0), (.l []), (.l []), (.l []), (.l []), (.l [])] [(0, 1), (2, 1), (3, 14), (18, 1), (19, 1)] [(.t 13), (.t 14), (.t 15), (.t 17), (.t 19)], .sto 22 (.t 0) (.t 20)] [12, 13, 14, 15, 16, 17, 18, 19, 20])
 (.ret [0])))))⟩
theorem comp44 : compile Tryz.prog Tryz.f44 = some code44 := by kernel_rfl
theorem okf44 : okFn Tryz.prog 44 = true := by kernel_rfl
-- 45: corebank/corebankref49.SameCells
def body45_1 : C :=
 (.seq (.seq (.q [(14, (.op (.bin .lss) [(.sl 5), (.op .len [(.sl 0)])]))])
 (.cond (.sl 14) .skip (.exit 0 [])))
 (.seq (.blk 1 (.seq (.q [(25, (.op (.eqa true [2, 2, 1]) [(.op (.ld 3 true) [(.op (.ix 3) [(.sl 0), (.sl 5)])]), (.op (.ld 3 true) [(.op (.ix 3) [(.sl 1), (.sl 5)])])]))])
 (.cond (.sl 25) (.seq (.q [(4, (.k (.b false)))])
 (.ret [4])) .skip)))
 (.q [(5, (.op (.bin .add) [(.sl 5), (.k (.i .i64 1))]))])))
def code45 : FCode := ⟨2, [.tmp 4],
 (.seq (.q [(4, (.k (.b false)))])
 (.seq (.seq (.q [(10, (.op (.bin .neq) [(.op .len [(.sl 0)]), (.op .len [(.sl 1)])]))])
 (.cond (.sl 10) (.seq (.q [(4, (.k (.b false)))])
 (.ret [4])) .skip))
 (.seq (.seq (.q [(5, (.k (.i .i64 0)))])
 (.blk 0 (.loop [0, 1, 5] body45_1)))
 (.seq (.q [(4, (.k (.b true)))])
 (.ret [4])))))⟩
theorem comp45 : compile Tryz.prog Tryz.f45 = some code45 := by kernel_rfl
theorem okf45 : okFn Tryz.prog 45 = true := by kernel_rfl
-- 46: corebank/corebankref07.SameInts
def body46_1 : C :=
 (.seq (.seq (.q [(14, (.op (.bin .lss) [(.sl 5), (.op .len [(.sl 0)])]))])
 (.cond (.sl 14) .skip (.exit 0 [])))
 (.seq (.blk 1 (.seq (.q [(25, (.op (.bin .neq) [(.op (.ld 1 false) [(.op (.ix 1) [(.sl 0), (.sl 5)])]), (.op (.ld 1 false) [(.op (.ix 1) [(.sl 1), (.sl 5)])])]))])
 (.cond (.sl 25) (.seq (.q [(4, (.k (.b false)))])
 (.ret [4])) .skip)))
 (.q [(5, (.op (.bin .add) [(.sl 5), (.k (.i .i64 1))]))])))
def code46 : FCode := ⟨2, [.tmp 4],
 (.seq (.q [(4, (.k (.b false)))])
 (.seq (.seq (.q [(10, (.op (.bin .neq) [(.op .len [(.sl 0)]), (.op .len [(.sl 1)])]))])
 (.cond (.sl 10) (.seq (.q [(4, (.k (.b false)))])
 (.ret [4])) .skip))
 (.seq (.seq (.q [(5, (.k (.i .i64 0)))])
 (.blk 0 (.loop [0, 1, 5] body46_1)))
 (.seq (.q [(4, (.k (.b true)))])
 (.ret [4])))))⟩
theorem comp46 : compile Tryz.prog Tryz.f46 = some code46 := by kernel_rfl
theorem okf46 : okFn Tryz.prog 46 = true := by kernel_rfl
-- 47: corebank/report.Owner
def code47 : FCode := ⟨2, [.tmp 4],
 (.seq (.s [.box 2 (.t 0), .as 4 (.c (.i .i64 0))] [])
 (.seq (.seq (.s [.fa 10 2 1 (.t 2), .q 11 (.ld 1 false) [(.t 10)], .mv 12 (.t 1), .call (some 13) 90 [(.t 11), (.t 12)], .mv 9 (.t 13), .ext 14 0 9, .ext 15 1 9, .alo 5 [(.i .i64 0), (.i .i64 0), (.i .i64 0), (.s [])], .sto 4 (.t 5) (.t 14), .as 6 (.t 15)] [10, 11, 12, 13, 9, 14, 15, 5])
 (.seq (.q [(16, (.sl 6))])
 (.cond (.sl 16) (.seq (.q [(4, (.sl 1))])
 (.ret [4])) .skip)))
 (.seq (.seq (.s [.q 19 (.ld 22 true) [(.t 2)], .mv 20 (.t 1), .call (some 21) 62 [(.t 19), (.t 20)], .mv 18 (.t 21), .ext 22 0 18, .ext 23 1 18, .alo 7 [(.i .i64 0), (.i .i64 0), (.i .i64 0), (.i .i64 0), (.s []), (.s []), (.s [])], .sto 7 (.t 7) (.t 22), .as 8 (.t 23)] [19, 20, 21, 18, 22, 23, 7])
 (.seq (.q [(24, (.sl 8))])
 (.cond (.sl 24) (.seq (.q [(4, (.op (.ld 1 false) [(.op (.fa 1 1) [(.op (.fa 3 14) [(.sl 2)])])]))])
 (.ret [4])) .skip)))
 (.seq (.q [(4, (.k (.i .i64 0)))])
 (.ret [4])))))⟩
theorem comp47 : compile Tryz.prog Tryz.f47 = some code47 := by kernel_rfl
theorem okf47 : okFn Tryz.prog 47 = true := by kernel_rfl
-- 48: corebank/report.name
def body48_1 : C :=
 (.seq (.q [(9, (.op (.bin .lss) [(.sl 8), (.sl 7)]))])
 (.seq (.cond (.sl 9) .skip (.exit 0 [0]))
 (.seq (.blk 1 (.seq (.q [(3, (.sl 8))])
 (.seq (.q [(4, (.op .idx [(.sl 0), (.sl 3)]))])
 (.seq (.q [(5, (.ite (.op (.bin .geq) [(.sl 4), (.k (.i .u8 97))]) (.op (.bin .leq) [(.sl 4), (.k (.i .u8 122))]) (.k (.b false))))])
 (.seq (.q [(37, (.ite (.op (.un .not) [(.sl 5)]) (.ite (.op (.bin .eql) [(.sl 3), (.k (.i .i64 0))]) (.k (.b true)) (.ite (.op (.bin .neq) [(.sl 4), (.k (.i .u8 95))]) (.ite (.op (.bin .lss) [(.sl 4), (.k (.i .u8 48))]) (.k (.b true)) (.op (.bin .gtr) [(.sl 4), (.k (.i .u8 57))])) (.k (.b false)))) (.k (.b false))))])
 (.cond (.sl 37) (.seq (.q [(2, (.k (.b false)))])
 (.ret [2])) .skip))))))
 (.q [(8, (.op (.bin .add) [(.sl 8), (.k (.i .i64 1))]))]))))
def code48 : FCode := ⟨1, [.tmp 2],
 (.seq (.q [(2, (.k (.b false)))])
 (.seq (.seq (.q [(7, (.op .slen [(.sl 0)])), (8, (.k (.i .i64 0)))])
 (.blk 0 (.loop [0, 7, 8] body48_1)))
 (.seq (.q [(2, (.ite (.op (.bin .geq) [(.op .slen [(.sl 0)]), (.k (.i .i64 1))]) (.op (.bin .leq) [(.op .slen [(.sl 0)]), (.k (.i .i64 16))]) (.k (.b false))))])
 (.ret [2]))))⟩
theorem comp48 : compile Tryz.prog Tryz.f48 = some code48 := by kernel_rfl
theorem okf48 : okFn Tryz.prog 48 = true := by kernel_rfl
-- 49: corebank/report.roots
def body49_1 : C :=
 (.seq (.q [(32, (.op (.bin .lss) [(.sl 31), (.sl 30)]))])
 (.seq (.cond (.sl 32) .skip (.exit 2 [1, 2, 11, 12, 13]))
 (.seq (.blk 3 (.seq (.q [(10, (.op (.ld 1 false) [(.op (.ix 1) [(.sl 29), (.sl 31)])]))])
 (.seq (.q [(46, (.ite (.op (.call false 91) [(.op (.ld 1 false) [(.op (.fa 2 1) [(.sl 2)])]), (.sl 6), (.sl 10)]) (.k (.b true)) (.op (.call false 91) [(.op (.ld 1 false) [(.op (.fa 2 1) [(.sl 2)])]), (.sl 10), (.sl 6)])))])
 (.cond (.sl 46) (.seq (.q [(4, (.k (.i .i64 12)))])
 (.ret [4])) .skip))))
 (.q [(31, (.op (.bin .add) [(.sl 31), (.k (.i .i64 1))]))]))))
def body49_2 : C :=
 (.seq (.q [(14, (.op (.bin .lss) [(.sl 13), (.sl 12)]))])
 (.seq (.cond (.sl 14) .skip (.exit 0 []))
 (.seq (.blk 1 (.seq (.q [(5, (.sl 13)), (6, (.op (.ld 1 false) [(.op (.ix 1) [(.sl 11), (.sl 13)])]))])
 (.seq (.seq (.s [.fa 19 2 1 (.t 2), .q 20 (.ld 1 false) [(.t 19)], .mv 21 (.t 6), .call (some 22) 90 [(.t 20), (.t 21)], .mv 18 (.t 22), .ext 23 0 18, .ext 24 1 18, .alo 7 [(.i .i64 0), (.i .i64 0), (.i .i64 0), (.s [])], .sto 4 (.t 7) (.t 23), .as 8 (.t 24)] [19, 20, 21, 22, 18, 23, 24, 7])
 (.seq (.q [(26, (.op (.un .not) [(.sl 8)]))])
 (.cond (.sl 26) (.seq (.q [(4, (.k (.i .i64 11)))])
 (.ret [4])) .skip)))
 (.seq (.s [.mv 27 (.t 1), .mv 28 (.t 5), .slc 29 1 false true [(.t 27), (.t 28)], .q 30 .len [(.t 29)], .mv 31 (.c (.i .i64 0))] [27, 28])
 (.blk 2 (.loop [1, 2, 6, 11, 12, 13, 29, 30, 31] body49_1))))))
 (.q [(13, (.op (.bin .add) [(.sl 13), (.k (.i .i64 1))]))]))))
def code49 : FCode := ⟨2, [.tmp 4],
 (.seq (.s [.box 2 (.t 0), .as 4 (.c (.i .i64 0))] [])
 (.seq (.seq (.s [.mv 11 (.t 1), .q 12 .len [(.t 11)], .mv 13 (.c (.i .i64 0))] [])
 (.blk 0 (.loop [1, 2, 11, 12, 13] body49_2)))
 (.seq (.q [(4, (.k (.i .i64 0)))])
 (.ret [4]))))⟩
theorem comp49 : compile Tryz.prog Tryz.f49 = some code49 := by kernel_rfl
theorem okf49 : okFn Tryz.prog 49 = true := by kernel_rfl
-- 50: corebank/report.belongs
def code50 : FCode := ⟨3, [.tmp 6],
 (.seq (.s [.box 3 (.t 0), .box 4 (.t 1), .as 6 (.c (.b false))] [])
 (.seq (.s [.q 8 (.ld 22 true) [(.t 3)], .mv 9 (.t 2), .call (some 10) 47 [(.t 8), (.t 9)], .alo 7 [(.i .i64 0)], .sto 1 (.t 7) (.t 10)] [8, 9, 10])
 (.seq (.g [.s (.q 11 (.ld 1 false) [(.t 7)]), .s (.q 12 (.bin .neq) [(.t 11), (.c (.i .i64 0))]), .s (.mv 13 (.t 12)), .gd 13 true (some 14) (.fa 14 2 1 (.t 4)), .gd 13 true (some 15) (.q 15 (.ld 1 false) [(.t 14)]), .gd 13 true (some 16) (.mkf 16 (.func 93) 0 [(.t 3), (.t 7)]), .gd 13 true (some 17) (.call (some 17) 92 [(.t 15), (.t 16)]), .pick 18 13 (.t 17) (.c (.b false)), .s (.as 6 (.t 18))] [11, 12, 13, 14, 15, 16, 17, 18])
 (.ret [6]))))⟩
theorem comp50 : compile Tryz.prog Tryz.f50 = some code50 := by kernel_rfl
theorem okf50 : okFn Tryz.prog 50 = true := by kernel_rfl
-- 51: corebank/corebankref24.Number
def body51_1 : C :=
 (.seq (.seq (.q [(14, (.op (.bin .lss) [(.sl 4), (.k (.i .i64 8))]))])
 (.cond (.sl 14) .skip (.exit 0 [3])))
 (.seq (.blk 1 (.seq (.q [(3, (.op (.bin .add) [(.op (.slcs true true) [(.k (.s [48, 49, 50, 51, 52, 53, 54, 55, 56, 57])), (.op (.bin .rem) [(.sl 0), (.k (.i .i64 10))]), (.op (.bin .add) [(.op (.bin .rem) [(.sl 0), (.k (.i .i64 10))]), (.k (.i .i64 1))])]), (.sl 3)]))])
 (.q [(0, (.op (.bin .quo) [(.sl 0), (.k (.i .i64 10))]))])))
 (.q [(4, (.op (.bin .add) [(.sl 4), (.k (.i .i64 1))]))])))
def code51 : FCode := ⟨1, [.tmp 2],
 (.seq (.q [(2, (.k (.s [])))])
 (.seq (.seq (.q [(12, (.ite (.op (.bin .lss) [(.sl 0), (.k (.i .i64 1000))]) (.k (.b true)) (.op (.bin .gtr) [(.sl 0), (.k (.i .i64 99999999))])))])
 (.cond (.sl 12) (.seq (.q [(2, (.k (.s [])))])
 (.ret [2])) .skip))
 (.seq (.q [(3, (.k (.s [])))])
 (.seq (.seq (.q [(4, (.k (.i .i64 0)))])
 (.blk 0 (.loop [0, 3, 4] body51_1)))
 (.seq (.s [.mv 28 (.t 3), .q 29 (.bin .add) [(.c (.s [67, 66])), (.t 28)], .call (some 30) 94 [(.t 29)], .mv 27 (.t 30), .ext 31 0 27, .ext 32 1 27, .as 5 (.t 31), .as 6 (.t 32)] [28, 29, 30, 27, 31, 32, 6])
 (.seq (.q [(2, (.sl 5))])
 (.ret [2])))))))⟩
theorem comp51 : compile Tryz.prog Tryz.f51 = some code51 := by kernel_rfl
theorem okf51 : okFn Tryz.prog 51 = true := by kernel_rfl
-- 62: corebank/account.Find
def code62 : FCode := ⟨2, [.cell 4 7 true, .tmp 5],
 (.seq (.s [.box 2 (.t 0), .alo 4 [(.i .i64 0), (.i .i64 0), (.i .i64 0), (.i .i64 0), (.s []), (.s []), (.s [])], .as 5 (.c (.b false))] [])
 (.seq (.q [(6, (.op (.call false 104) [(.op (.ld 22 true) [(.sl 2)]), (.sl 1)]))])
 (.seq (.seq (.q [(11, (.op (.bin .lss) [(.sl 6), (.k (.i .i64 0))]))])
 (.cond (.sl 11) (.seq (.s [.bld 12 [(.i .i64 0), (.i .i64 0), (.i .i64 0), (.i .i64 0), (.s []), (.s []), (.s [])] [] [], .sto 7 (.t 4) (.t 12), .as 5 (.c (.b false))] [12])
 (.ret [4, 5])) .skip))
 (.seq (.s [.fa 13 18 1 (.t 2), .q 14 (.ld 1 false) [(.t 13)], .mv 15 (.t 6), .ix 16 7 (.t 14) (.t 15), .q 17 (.ld 7 true) [(.t 16)], .sto 7 (.t 4) (.t 17), .as 5 (.c (.b true))] [13, 14, 15, 16, 17])
 (.ret [4, 5])))))⟩
theorem comp62 : compile Tryz.prog Tryz.f62 = some code62 := by kernel_rfl
theorem okf62 : okFn Tryz.prog 62 = true := by kernel_rfl
-- 74: corebank/corebankref03.Code
def body74_1 : C :=
 (.seq (.seq (.q [(8, (.op (.bin .lss) [(.sl 3), (.k (.i .i64 3))]))])
 (.cond (.sl 8) .skip (.exit 0 [])))
 (.seq (.blk 1 (.seq (.q [(20, (.ite (.op (.bin .lss) [(.op .idx [(.sl 0), (.sl 3)]), (.k (.i .u8 65))]) (.k (.b true)) (.op (.bin .gtr) [(.op .idx [(.sl 0), (.sl 3)]), (.k (.i .u8 90))])))])
 (.cond (.sl 20) (.seq (.q [(2, (.k (.b false)))])
 (.ret [2])) .skip)))
 (.q [(3, (.op (.bin .add) [(.sl 3), (.k (.i .i64 1))]))])))
def code74 : FCode := ⟨1, [.tmp 2],
 (.seq (.q [(2, (.k (.b false)))])
 (.seq (.seq (.q [(6, (.op (.bin .neq) [(.op .slen [(.sl 0)]), (.k (.i .i64 3))]))])
 (.cond (.sl 6) (.seq (.q [(2, (.k (.b false)))])
 (.ret [2])) .skip))
 (.seq (.seq (.q [(3, (.k (.i .i64 0)))])
 (.blk 0 (.loop [0, 3] body74_1)))
 (.seq (.q [(2, (.k (.b true)))])
 (.ret [2])))))⟩
theorem comp74 : compile Tryz.prog Tryz.f74 = some code74 := by kernel_rfl
theorem okf74 : okFn Tryz.prog 74 = true := by kernel_rfl
-- 75: corebank/corebankref05.Check
def body75_1 : C :=
 (.seq (.seq (.q [(13, (.op (.bin .lss) [(.sl 3), (.op .len [(.op (.ld 1 false) [(.op (.fa 1 1) [(.sl 1)])])])]))])
 (.cond (.sl 13) .skip (.exit 0 [1])))
 (.seq (.blk 1 (.seq (.q [(29, (.ite (.op (.bin .lss) [(.op (.ld 1 false) [(.op (.ix 1) [(.op (.ld 1 false) [(.op (.fa 1 1) [(.sl 1)])]), (.sl 3)])]), (.k (.i .i64 0))]) (.k (.b true)) (.op (.bin .gtr) [(.op (.ld 1 false) [(.op (.ix 1) [(.op (.ld 1 false) [(.op (.fa 1 1) [(.sl 1)])]), (.sl 3)])]), (.k (.i .i64 6))])))])
 (.cond (.sl 29) (.seq (.q [(2, (.k (.i .i64 1)))])
 (.ret [2])) .skip)))
 (.q [(3, (.op (.bin .add) [(.sl 3), (.k (.i .i64 1))]))])))
def body75_2 : C :=
 (.seq (.seq (.q [(48, (.op (.bin .lss) [(.sl 4), (.op .len [(.op (.ld 1 false) [(.op (.fa 2 1) [(.sl 1)])])])]))])
 (.cond (.sl 48) .skip (.exit 2 [1])))
 (.seq (.blk 3 (.seq (.q [(57, (.op (.un .not) [(.op (.call false 81) [(.op (.ld 1 false) [(.op (.ix 1) [(.op (.ld 1 false) [(.op (.fa 2 1) [(.sl 1)])]), (.sl 4)])])])]))])
 (.cond (.sl 57) (.seq (.q [(2, (.k (.i .i64 1)))])
 (.ret [2])) .skip)))
 (.q [(4, (.op (.bin .add) [(.sl 4), (.k (.i .i64 1))]))])))
def code75 : FCode := ⟨1, [.tmp 2],
 (.seq (.s [.box 1 (.t 0), .as 2 (.c (.i .i64 0))] [])
 (.seq (.seq (.q [(8, (.op (.un .not) [(.op (.call false 89) [(.op (.ld 1 false) [(.op (.fa 0 1) [(.sl 1)])])])]))])
 (.cond (.sl 8) (.seq (.q [(2, (.k (.i .i64 4)))])
 (.ret [2])) .skip))
 (.seq (.seq (.q [(3, (.k (.i .i64 0)))])
 (.blk 0 (.loop [1, 3] body75_1)))
 (.seq (.seq (.q [(39, (.ite (.op (.bin .gtr) [(.op .len [(.op (.ld 1 false) [(.op (.fa 1 1) [(.sl 1)])])]), (.k (.i .i64 6))]) (.k (.b true)) (.op (.un .not) [(.op (.call false 125) [(.op (.ld 1 false) [(.op (.fa 1 1) [(.sl 1)])])])])))])
 (.cond (.sl 39) (.seq (.q [(2, (.k (.i .i64 1)))])
 (.ret [2])) .skip))
 (.seq (.seq (.q [(43, (.op (.bin .gtr) [(.op .len [(.op (.ld 1 false) [(.op (.fa 2 1) [(.sl 1)])])]), (.k (.i .i64 400))]))])
 (.cond (.sl 43) (.seq (.q [(2, (.k (.i .i64 5)))])
 (.ret [2])) .skip))
 (.seq (.seq (.q [(4, (.k (.i .i64 0)))])
 (.blk 2 (.loop [1, 4] body75_2)))
 (.seq (.seq (.q [(61, (.op (.un .not) [(.op (.call false 125) [(.op (.ld 1 false) [(.op (.fa 2 1) [(.sl 1)])])])]))])
 (.cond (.sl 61) (.seq (.q [(2, (.k (.i .i64 10)))])
 (.ret [2])) .skip))
 (.seq (.q [(2, (.k (.i .i64 0)))])
 (.ret [2])))))))))⟩
theorem comp75 : compile Tryz.prog Tryz.f75 = some code75 := by kernel_rfl
theorem okf75 : okFn Tryz.prog 75 = true := by kernel_rfl
-- 76: corebank/corebankref18.name
def body76_1 : C :=
 (.seq (.seq (.q [(24, (.op (.bin .lss) [(.sl 3), (.op .slen [(.sl 0)])]))])
 (.cond (.sl 24) .skip (.exit 0 [])))
 (.seq (.blk 1 (.seq (.q [(54, (.ite (.ite (.ite (.op (.bin .lss) [(.op .idx [(.sl 0), (.sl 3)]), (.k (.i .u8 97))]) (.k (.b true)) (.op (.bin .gtr) [(.op .idx [(.sl 0), (.sl 3)]), (.k (.i .u8 122))])) (.ite (.op (.bin .lss) [(.op .idx [(.sl 0), (.sl 3)]), (.k (.i .u8 48))]) (.k (.b true)) (.op (.bin .gtr) [(.op .idx [(.sl 0), (.sl 3)]), (.k (.i .u8 57))])) (.k (.b false))) (.op (.bin .neq) [(.op .idx [(.sl 0), (.sl 3)]), (.k (.i .u8 95))]) (.k (.b false))))])
 (.cond (.sl 54) (.seq (.q [(2, (.k (.b false)))])
 (.ret [2])) .skip)))
 (.q [(3, (.op (.bin .add) [(.sl 3), (.k (.i .i64 1))]))])))
def code76 : FCode := ⟨1, [.tmp 2],
 (.seq (.q [(2, (.k (.b false)))])
 (.seq (.seq (.q [(20, (.ite (.ite (.ite (.op (.bin .eql) [(.sl 0), (.k (.s []))]) (.k (.b true)) (.op (.bin .gtr) [(.op .slen [(.sl 0)]), (.k (.i .i64 16))])) (.k (.b true)) (.op (.bin .lss) [(.op .idx [(.sl 0), (.k (.i .i64 0))]), (.k (.i .u8 97))])) (.k (.b true)) (.op (.bin .gtr) [(.op .idx [(.sl 0), (.k (.i .i64 0))]), (.k (.i .u8 122))])))])
 (.cond (.sl 20) (.seq (.q [(2, (.k (.b false)))])
 (.ret [2])) .skip))
 (.seq (.seq (.q [(3, (.k (.i .i64 1)))])
 (.blk 0 (.loop [0, 3] body76_1)))
 (.seq (.q [(2, (.k (.b true)))])
 (.ret [2])))))⟩
theorem comp76 : compile Tryz.prog Tryz.f76 = some code76 := by kernel_rfl
theorem okf76 : okFn Tryz.prog 76 = true := by kernel_rfl
-- 77: corebank/corebankref18.Find
def body77_1 : C :=
 (.seq (.seq (.q [(10, (.op (.bin .lss) [(.sl 6), (.op .len [(.sl 0)])]))])
 (.cond (.sl 10) .skip (.exit 0 [4])))
 (.seq (.blk 1 (.seq (.q [(19, (.op (.bin .eql) [(.op (.ld 1 false) [(.op (.fa 0 1) [(.op (.ix 4) [(.sl 0), (.sl 6)])])]), (.sl 1)]))])
 (.cond (.sl 19) (.seq (.s [.mv 20 (.t 0), .mv 21 (.t 6), .ix 22 4 (.t 20) (.t 21), .q 23 (.ld 4 true) [(.t 22)], .sto 4 (.t 4) (.t 23), .as 5 (.c (.b true))] [20, 21, 22, 23])
 (.ret [4, 5])) .skip)))
 (.q [(6, (.op (.bin .add) [(.sl 6), (.k (.i .i64 1))]))])))
def code77 : FCode := ⟨2, [.cell 4 4 true, .tmp 5],
 (.seq (.s [.alo 4 [(.i .i64 0), (.i .i64 0), (.i .i64 0), (.s [])], .as 5 (.c (.b false))] [])
 (.seq (.seq (.q [(6, (.k (.i .i64 0)))])
 (.blk 0 (.loop [0, 1, 4, 6] body77_1)))
 (.seq (.s [.bld 24 [(.i .i64 0), (.i .i64 0), (.i .i64 0), (.s [])] [] [], .sto 4 (.t 4) (.t 24), .as 5 (.c (.b false))] [24])
 (.ret [4, 5]))))⟩
theorem comp77 : compile Tryz.prog Tryz.f77 = some code77 := by kernel_rfl
theorem okf77 : okFn Tryz.prog 77 = true := by kernel_rfl
-- 78: corebank/corebankref18.used
def code78 : FCode := ⟨3, [.tmp 6],
 (.seq (.q [(6, (.k (.i .i64 0)))])
 (.seq (.s [.mv 10 (.t 0), .mv 11 (.t 1), .call (some 12) 77 [(.t 10), (.t 11)], .mv 9 (.t 12), .ext 13 0 9, .ext 14 1 9, .alo 7 [(.i .i64 0), (.i .i64 0), (.i .i64 0), (.s [])], .sto 4 (.t 7) (.t 13), .as 8 (.t 14)] [10, 11, 12, 9, 13, 14])
 (.seq (.seq (.q [(21, (.ite (.op (.un .not) [(.sl 8)]) (.k (.b true)) (.op (.call false 126) [(.sl 0), (.sl 1)])))])
 (.cond (.sl 21) (.seq (.q [(6, (.k (.i .i64 11)))])
 (.ret [6])) .skip))
 (.seq (.seq (.q [(25, (.op (.bin .neq) [(.op (.ld 1 false) [(.op (.fa 2 1) [(.sl 7)])]), (.sl 2)]))])
 (.cond (.sl 25) (.seq (.q [(6, (.k (.i .i64 3)))])
 (.ret [6])) .skip))
 (.seq (.q [(6, (.k (.i .i64 0)))])
 (.ret [6]))))))⟩
theorem comp78 : compile Tryz.prog Tryz.f78 = some code78 := by kernel_rfl
theorem okf78 : okFn Tryz.prog 78 = true := by kernel_rfl
-- 79: corebank/corebankref17.Check
def body79_1 : C :=
 (.seq (.seq (.q [(11, (.op (.bin .lss) [(.sl 3), (.op .len [(.sl 0)])]))])
 (.cond (.sl 11) .skip (.exit 0 [0])))
 (.seq (.blk 1 (.seq (.q [(24, (.op (.un .not) [(.op (.call true 127) [(.op (.ld 19 true) [(.op (.ix 19) [(.sl 0), (.op (.bin .sub) [(.sl 3), (.k (.i .i64 1))])])]), (.op (.ld 19 true) [(.op (.ix 19) [(.sl 0), (.sl 3)])])])]))])
 (.cond (.sl 24) (.seq (.q [(2, (.k (.i .i64 10)))])
 (.ret [2])) .skip)))
 (.q [(3, (.op (.bin .add) [(.sl 3), (.k (.i .i64 1))]))])))
def body79_2 : C :=
 (.seq (.seq (.q [(28, (.op (.bin .lss) [(.sl 4), (.op .len [(.sl 0)])]))])
 (.cond (.sl 28) .skip (.exit 2 [])))
 (.seq (.blk 3 (.seq (.q [(56, (.ite (.op (.bin .eql) [(.op (.ld 1 false) [(.op (.fa 0 1) [(.op (.ix 19) [(.sl 0), (.sl 4)])])]), (.op (.ld 1 false) [(.op (.fa 0 1) [(.op (.ix 19) [(.sl 0), (.op (.bin .sub) [(.sl 4), (.k (.i .i64 1))])])])])]) (.op (.bin .neq) [(.op (.ld 1 false) [(.op (.fa 1 1) [(.op (.ix 19) [(.sl 0), (.sl 4)])])]), (.op (.ld 1 false) [(.op (.fa 1 1) [(.op (.ix 19) [(.sl 0), (.op (.bin .sub) [(.sl 4), (.k (.i .i64 1))])])])])]) (.k (.b false))))])
 (.cond (.sl 56) (.seq (.q [(2, (.k (.i .i64 14)))])
 (.ret [2])) .skip)))
 (.q [(4, (.op (.bin .add) [(.sl 4), (.k (.i .i64 1))]))])))
def code79 : FCode := ⟨1, [.tmp 2],
 (.seq (.q [(2, (.k (.i .i64 0)))])
 (.seq (.seq (.q [(7, (.op (.bin .gtr) [(.op .len [(.sl 0)]), (.k (.i .i64 64))]))])
 (.cond (.sl 7) (.seq (.q [(2, (.k (.i .i64 5)))])
 (.ret [2])) .skip))
 (.seq (.seq (.q [(3, (.k (.i .i64 1)))])
 (.blk 0 (.loop [0, 3] body79_1)))
 (.seq (.seq (.q [(4, (.k (.i .i64 1)))])
 (.blk 2 (.loop [0, 4] body79_2)))
 (.seq (.q [(2, (.k (.i .i64 0)))])
 (.ret [2]))))))⟩
theorem comp79 : compile Tryz.prog Tryz.f79 = some code79 := by kernel_rfl
theorem okf79 : okFn Tryz.prog 79 = true := by kernel_rfl
-- 80: corebank/corebankref15.Check
def body80_1 : C :=
 (.seq (.seq (.q [(112, (.op (.bin .lss) [(.sl 14), (.op .len [(.op (.ld 1 false) [(.op (.fa 17 1) [(.sl 3)])])])]))])
 (.cond (.sl 112) .skip (.exit 0 [3])))
 (.seq (.blk 1 (.seq (.q [(15, (.op (.call false 132) [(.op (.ld 10 true) [(.op (.ix 10) [(.op (.ld 1 false) [(.op (.fa 17 1) [(.sl 3)])]), (.sl 14)])])]))])
 (.seq (.q [(122, (.op (.bin .neq) [(.sl 15), (.k (.i .i64 0))]))])
 (.cond (.sl 122) (.seq (.q [(6, (.sl 15))])
 (.ret [6])) .skip))))
 (.q [(14, (.op (.bin .add) [(.sl 14), (.k (.i .i64 1))]))])))
def body80_2 : C :=
 (.seq (.seq (.q [(128, (.op (.bin .lss) [(.sl 16), (.op .len [(.op (.ld 1 false) [(.op (.fa 18 1) [(.sl 3)])])])]))])
 (.cond (.sl 128) .skip (.exit 2 [])))
 (.seq (.blk 3 (.seq (.q [(17, (.op (.call false 133) [(.op (.ld 6 true) [(.op (.ix 6) [(.op (.ld 1 false) [(.op (.fa 18 1) [(.sl 3)])]), (.sl 16)])])]))])
 (.seq (.q [(138, (.op (.bin .neq) [(.sl 17), (.k (.i .i64 0))]))])
 (.cond (.sl 138) (.seq (.q [(6, (.sl 17))])
 (.ret [6])) .skip))))
 (.q [(16, (.op (.bin .add) [(.sl 16), (.k (.i .i64 1))]))])))
def code80 : FCode := ⟨3, [.tmp 6],
 (.seq (.s [.box 3 (.t 0), .as 6 (.c (.i .i64 0))] [])
 (.seq (.seq (.q [(21, (.op (.un .not) [(.op (.call false 128) [(.op (.ld 1 false) [(.op (.fa 0 1) [(.sl 3)])])])]))])
 (.cond (.sl 21) (.seq (.q [(6, (.k (.i .i64 4)))])
 (.ret [6])) .skip))
 (.seq (.seq (.s [.mv 23 (.t 1), .fa 24 1 1 (.t 3), .q 25 (.ld 1 false) [(.t 24)], .call (some 26) 129 [(.t 23), (.t 25)], .mv 22 (.t 26), .ext 27 0 22, .ext 28 1 22, .alo 7 [(.s []), (.i .i64 0)], .sto 2 (.t 7) (.t 27), .as 8 (.t 28)] [23, 24, 25, 26, 22, 27, 28, 7])
 (.seq (.q [(30, (.op (.un .not) [(.sl 8)]))])
 (.cond (.sl 30) (.seq (.q [(6, (.k (.i .i64 14)))])
 (.ret [6])) .skip)))
 (.seq (.seq (.s [.mv 32 (.t 2), .fa 33 2 1 (.t 3), .q 34 (.ld 1 false) [(.t 33)], .call (some 35) 130 [(.t 32), (.t 34)], .mv 31 (.t 35), .ext 36 0 31, .ext 37 1 31, .alo 9 [(.s []), (.l []), (.l [])], .sto 3 (.t 9) (.t 36), .as 10 (.t 37)] [32, 33, 34, 35, 31, 36, 37, 9])
 (.seq (.q [(39, (.op (.un .not) [(.sl 10)]))])
 (.cond (.sl 39) (.seq (.q [(6, (.k (.i .i64 11)))])
 (.ret [6])) .skip)))
 (.seq (.q [(11, (.ite (.ite (.ite (.op (.bin .eql) [(.op (.ld 1 false) [(.op (.fa 4 1) [(.sl 3)])]), (.k (.i .i64 1))]) (.k (.b true)) (.op (.bin .eql) [(.op (.ld 1 false) [(.op (.fa 4 1) [(.sl 3)])]), (.k (.i .i64 3))])) (.k (.b true)) (.op (.bin .eql) [(.op (.ld 1 false) [(.op (.fa 4 1) [(.sl 3)])]), (.k (.i .i64 6))])) (.k (.b true)) (.op (.bin .eql) [(.op (.ld 1 false) [(.op (.fa 4 1) [(.sl 3)])]), (.k (.i .i64 12))])))])
 (.seq (.seq (.q [(85, (.ite (.ite (.ite (.ite (.ite (.op (.un .not) [(.op (.call false 81) [(.op (.ld 1 false) [(.op (.fa 3 1) [(.sl 3)])])])]) (.k (.b true)) (.op (.un .not) [(.sl 11)])) (.k (.b true)) (.op (.bin .lss) [(.op (.ld 1 false) [(.op (.fa 5 1) [(.sl 3)])]), (.k (.i .i64 0))])) (.k (.b true)) (.op (.bin .gtr) [(.op (.ld 1 false) [(.op (.fa 5 1) [(.sl 3)])]), (.k (.i .i64 1000000000000))])) (.k (.b true)) (.op (.bin .lss) [(.op (.ld 1 false) [(.op (.fa 6 1) [(.sl 3)])]), (.k (.i .i64 0))])) (.k (.b true)) (.op (.bin .gtr) [(.op (.ld 1 false) [(.op (.fa 6 1) [(.sl 3)])]), (.k (.i .i64 1000000))])))])
 (.cond (.sl 85) (.seq (.q [(6, (.k (.i .i64 1)))])
 (.ret [6])) .skip))
 (.seq (.seq (.q [(12, (.op (.call false 131) [(.op (.ld 5 true) [(.op (.fa 7 5) [(.sl 3)])])]))])
 (.seq (.q [(90, (.op (.bin .neq) [(.sl 12), (.k (.i .i64 0))]))])
 (.cond (.sl 90) (.seq (.q [(6, (.sl 12))])
 (.ret [6])) .skip)))
 (.seq (.seq (.q [(13, (.op (.call false 131) [(.op (.ld 5 true) [(.op (.fa 12 5) [(.sl 3)])])]))])
 (.seq (.q [(96, (.op (.bin .neq) [(.sl 13), (.k (.i .i64 0))]))])
 (.cond (.sl 96) (.seq (.q [(6, (.sl 13))])
 (.ret [6])) .skip)))
 (.seq (.seq (.q [(107, (.ite (.op (.bin .gtr) [(.op .len [(.op (.ld 1 false) [(.op (.fa 17 1) [(.sl 3)])])]), (.k (.i .i64 4))]) (.k (.b true)) (.op (.bin .gtr) [(.op .len [(.op (.ld 1 false) [(.op (.fa 18 1) [(.sl 3)])])]), (.k (.i .i64 4))])))])
 (.cond (.sl 107) (.seq (.q [(6, (.k (.i .i64 5)))])
 (.ret [6])) .skip))
 (.seq (.seq (.q [(14, (.k (.i .i64 0)))])
 (.blk 0 (.loop [3, 14] body80_1)))
 (.seq (.seq (.q [(16, (.k (.i .i64 0)))])
 (.blk 2 (.loop [3, 16] body80_2)))
 (.seq (.q [(6, (.k (.i .i64 0)))])
 (.ret [6])))))))))))))⟩
theorem comp80 : compile Tryz.prog Tryz.f80 = some code80 := by kernel_rfl
theorem okf80 : okFn Tryz.prog 80 = true := by kernel_rfl
-- 81: corebank/corebankref04.Valid
def code81 : FCode := ⟨1, [.tmp 2],
 (.seq (.q [(2, (.k (.b false)))])
 (.seq (.q [(2, (.ite (.op (.bin .geq) [(.sl 0), (.k (.i .i64 0))]) (.op (.bin .leq) [(.sl 0), (.k (.i .i64 73048))]) (.k (.b false))))])
 (.ret [2])))⟩
theorem comp81 : compile Tryz.prog Tryz.f81 = some code81 := by kernel_rfl
theorem okf81 : okFn Tryz.prog 81 = true := by kernel_rfl
-- 82: corebank/corebankref24.shaped
def code82 : FCode := ⟨1, [.tmp 2],
 (.seq (.s [.box 1 (.t 0), .as 2 (.c (.b false))] [])
 (.seq (.q [(2, (.ite (.ite (.ite (.op (.bin .geq) [(.op (.ld 1 false) [(.op (.fa 0 1) [(.sl 1)])]), (.k (.i .i64 1000))]) (.op (.bin .leq) [(.op (.ld 1 false) [(.op (.fa 0 1) [(.sl 1)])]), (.k (.i .i64 99999999))]) (.k (.b false))) (.op (.call true 81) [(.op (.ld 1 false) [(.op (.fa 1 1) [(.sl 1)])])]) (.k (.b false))) (.op (.bin .eql) [(.op (.ld 1 false) [(.op (.fa 6 1) [(.sl 1)])]), (.op (.call true 51) [(.op (.ld 1 false) [(.op (.fa 0 1) [(.sl 1)])])])]) (.k (.b false))))])
 (.ret [2])))⟩
theorem comp82 : compile Tryz.prog Tryz.f82 = some code82 := by kernel_rfl
theorem okf82 : okFn Tryz.prog 82 = true := by kernel_rfl
-- 83: corebank/corebankref24.owned
def code83 : FCode := ⟨2, [.tmp 4],
 (.seq (.s [.box 2 (.t 0), .box 3 (.t 1), .as 4 (.c (.i .i64 0))] [])
 (.seq (.seq (.q [(10, (.op (.un .not) [(.op (.call false 128) [(.op (.ld 1 false) [(.op (.fa 4 1) [(.sl 3)])])])]))])
 (.cond (.sl 10) (.seq (.q [(4, (.k (.i .i64 4)))])
 (.ret [4])) .skip))
 (.seq (.seq (.s [.fa 12 17 1 (.t 2), .q 13 (.ld 1 false) [(.t 12)], .fa 14 5 1 (.t 3), .q 15 (.ld 1 false) [(.t 14)], .fa 16 1 1 (.t 3), .q 17 (.ld 1 false) [(.t 16)], .call (some 18) 134 [(.t 13), (.t 15), (.t 17)], .mv 11 (.t 18), .ext 19 0 11, .ext 20 1 11, .alo 5 [(.s []), (.s []), (.s []), (.i .i64 0), (.i .i64 0), (.i .i64 0), (.i .i64 0), (.l []), (.b false), (.i .i64 0), (.i .i64 0), (.b false), (.l []), (.b false), (.i .i64 0), (.i .i64 0), (.b false), (.l []), (.l [])], .sto 19 (.t 5) (.t 19), .as 6 (.t 20)] [12, 13, 14, 15, 16, 17, 18, 11, 19, 20, 5])
 (.seq (.q [(22, (.op (.un .not) [(.sl 6)]))])
 (.cond (.sl 22) (.seq (.q [(4, (.k (.i .i64 11)))])
 (.ret [4])) .skip)))
 (.seq (.q [(4, (.k (.i .i64 0)))])
 (.ret [4])))))⟩
theorem comp83 : compile Tryz.prog Tryz.f83 = some code83 := by kernel_rfl
theorem okf83 : okFn Tryz.prog 83 = true := by kernel_rfl
-- 84: corebank/corebankref20.Verify
def body84_1 : C :=
 (.seq (.seq (.q [(7, (.op (.bin .lss) [(.sl 3), (.op .len [(.sl 0)])]))])
 (.cond (.sl 7) .skip (.exit 0 [])))
 (.seq (.blk 1 (.seq (.q [(34, (.ite (.op (.bin .neq) [(.op (.call false 135) [(.op (.slc 10 false true) [(.sl 0), (.sl 3)]), (.op (.ld 10 true) [(.op (.ix 10) [(.sl 0), (.sl 3)])])]), (.k (.i .i64 0))]) (.k (.b true)) (.op (.un .not) [(.op (.call false 136) [(.op (.call false 137) [(.op (.slc 10 false true) [(.sl 0), (.sl 3)]), (.op (.ld 10 true) [(.op (.ix 10) [(.sl 0), (.sl 3)])])]), (.op (.ld 10 true) [(.op (.ix 10) [(.sl 0), (.sl 3)])])])])))])
 (.cond (.sl 34) (.seq (.q [(2, (.sl 3))])
 (.ret [2])) .skip)))
 (.q [(3, (.op (.bin .add) [(.sl 3), (.k (.i .i64 1))]))])))
def code84 : FCode := ⟨1, [.tmp 2],
 (.seq (.q [(2, (.k (.i .i64 0)))])
 (.seq (.seq (.q [(3, (.k (.i .i64 0)))])
 (.blk 0 (.loop [0, 3] body84_1)))
 (.seq (.q [(2, (.k (.i .i64 (-1))))])
 (.ret [2]))))⟩
theorem comp84 : compile Tryz.prog Tryz.f84 = some code84 := by kernel_rfl
theorem okf84 : okFn Tryz.prog 84 = true := by kernel_rfl
-- 85: corebank/corebankref26.Legs
def body85_1 : C :=
 (.seq (.seq (.q [(11, (.op (.bin .lss) [(.sl 5), (.op .len [(.op (.ld 1 false) [(.op (.fa 8 1) [(.sl 3)])])])]))])
 (.cond (.sl 11) .skip (.exit 0 [])))
 (.seq (.blk 1 (.seq (.q [(6, (.op (.call true 138) [(.op (.ld 22 true) [(.sl 2)]), (.op (.ld 3 true) [(.op (.ix 3) [(.op (.ld 1 false) [(.op (.fa 8 1) [(.sl 3)])]), (.sl 5)])]), (.op (.ld 1 false) [(.op (.fa 1 1) [(.sl 3)])])]))])
 (.seq (.q [(24, (.op (.bin .neq) [(.sl 6), (.k (.i .i64 0))]))])
 (.cond (.sl 24) (.seq (.q [(4, (.sl 6))])
 (.ret [4])) .skip))))
 (.q [(5, (.op (.bin .add) [(.sl 5), (.k (.i .i64 1))]))])))
def code85 : FCode := ⟨2, [.tmp 4],
 (.seq (.s [.box 2 (.t 0), .box 3 (.t 1), .as 4 (.c (.i .i64 0))] [])
 (.seq (.seq (.q [(5, (.k (.i .i64 0)))])
 (.blk 0 (.loop [2, 3, 5] body85_1)))
 (.seq (.q [(4, (.k (.i .i64 0)))])
 (.ret [4]))))⟩
theorem comp85 : compile Tryz.prog Tryz.f85 = some code85 := by kernel_rfl
theorem okf85 : okFn Tryz.prog 85 = true := by kernel_rfl
-- 86: corebank/corebankref22.one
def code86 : FCode := ⟨1, [.tmp 2],
 (.seq (.s [.box 1 (.t 0), .as 2 (.c (.i .i64 0))] [])
 (.seq (.seq (.q [(39, (.ite (.ite (.ite (.ite (.ite (.ite (.op (.bin .lss) [(.op (.ld 1 false) [(.op (.fa 0 1) [(.sl 1)])]), (.k (.i .i64 1))]) (.k (.b true)) (.op (.bin .lss) [(.op (.ld 1 false) [(.op (.fa 1 1) [(.sl 1)])]), (.k (.i .i64 1000))])) (.k (.b true)) (.op (.bin .lss) [(.op (.ld 1 false) [(.op (.fa 2 1) [(.sl 1)])]), (.k (.i .i64 1))])) (.k (.b true)) (.op (.bin .gtr) [(.op (.ld 1 false) [(.op (.fa 2 1) [(.sl 1)])]), (.k (.i .i64 1000000000000))])) (.k (.b true)) (.op (.un .not) [(.op (.call false 81) [(.op (.ld 1 false) [(.op (.fa 3 1) [(.sl 1)])])])])) (.k (.b true)) (.op (.un .not) [(.op (.call false 81) [(.op (.ld 1 false) [(.op (.fa 4 1) [(.sl 1)])])])])) (.k (.b true)) (.op (.bin .lss) [(.op (.ld 1 false) [(.op (.fa 4 1) [(.sl 1)])]), (.op (.ld 1 false) [(.op (.fa 3 1) [(.sl 1)])])])))])
 (.cond (.sl 39) (.seq (.q [(2, (.k (.i .i64 1)))])
 (.ret [2])) .skip))
 (.seq (.seq (.q [(43, (.op (.un .not) [(.op (.call false 139) [(.op (.ld 1 false) [(.op (.fa 5 1) [(.sl 1)])])])]))])
 (.cond (.sl 43) (.seq (.q [(2, (.k (.i .i64 4)))])
 (.ret [2])) .skip))
 (.seq (.q [(2, (.k (.i .i64 0)))])
 (.ret [2])))))⟩
theorem comp86 : compile Tryz.prog Tryz.f86 = some code86 := by kernel_rfl
theorem okf86 : okFn Tryz.prog 86 = true := by kernel_rfl
-- 87: corebank/corebankref22.named
def body87_1 : C :=
 (.seq (.seq (.q [(9, (.op (.bin .lss) [(.sl 5), (.op .len [(.sl 0)])]))])
 (.cond (.sl 9) .skip (.exit 0 [])))
 (.seq (.blk 1 (.seq (.q [(18, (.op (.bin .eql) [(.op (.ld 1 false) [(.op (.fa 5 1) [(.op (.ix 6) [(.sl 0), (.sl 5)])])]), (.sl 1)]))])
 (.cond (.sl 18) (.seq (.q [(4, (.k (.b true)))])
 (.ret [4])) .skip)))
 (.q [(5, (.op (.bin .add) [(.sl 5), (.k (.i .i64 1))]))])))
def code87 : FCode := ⟨2, [.tmp 4],
 (.seq (.q [(4, (.k (.b false)))])
 (.seq (.seq (.q [(5, (.k (.i .i64 0)))])
 (.blk 0 (.loop [0, 1, 5] body87_1)))
 (.seq (.q [(4, (.k (.b false)))])
 (.ret [4]))))⟩
theorem comp87 : compile Tryz.prog Tryz.f87 = some code87 := by kernel_rfl
theorem okf87 : okFn Tryz.prog 87 = true := by kernel_rfl
-- 88: corebank/corebankref23.good
def code88 : FCode := ⟨1, [.tmp 2],
 (.seq (.s [.box 1 (.t 0), .as 2 (.c (.b false))] [])
 (.seq (.seq (.q [(20, (.ite (.ite (.ite (.op (.bin .lss) [(.op (.ld 1 false) [(.op (.fa 0 1) [(.sl 1)])]), (.k (.i .i64 1))]) (.k (.b true)) (.op (.bin .lss) [(.op (.ld 1 false) [(.op (.fa 1 1) [(.sl 1)])]), (.k (.i .i64 1000))])) (.k (.b true)) (.op (.bin .lss) [(.op (.ld 1 false) [(.op (.fa 2 1) [(.sl 1)])]), (.k (.i .i64 1))])) (.k (.b true)) (.op (.bin .gtr) [(.op (.ld 1 false) [(.op (.fa 2 1) [(.sl 1)])]), (.k (.i .i64 4))])))])
 (.cond (.sl 20) (.seq (.q [(2, (.k (.b false)))])
 (.ret [2])) .skip))
 (.seq (.seq (.q [(43, (.ite (.ite (.op (.bin .eql) [(.op (.ld 1 false) [(.op (.fa 2 1) [(.sl 1)])]), (.k (.i .i64 4))]) (.ite (.op (.bin .lss) [(.op (.ld 1 false) [(.op (.fa 3 1) [(.sl 1)])]), (.k (.i .i64 1))]) (.k (.b true)) (.op (.bin .gtr) [(.op (.ld 1 false) [(.op (.fa 3 1) [(.sl 1)])]), (.k (.i .i64 1000000000000))])) (.k (.b false))) (.k (.b true)) (.ite (.op (.bin .neq) [(.op (.ld 1 false) [(.op (.fa 2 1) [(.sl 1)])]), (.k (.i .i64 4))]) (.op (.bin .neq) [(.op (.ld 1 false) [(.op (.fa 3 1) [(.sl 1)])]), (.k (.i .i64 0))]) (.k (.b false)))))])
 (.cond (.sl 43) (.seq (.q [(2, (.k (.b false)))])
 (.ret [2])) .skip))
 (.seq (.q [(2, (.ite (.ite (.op (.call false 81) [(.op (.ld 1 false) [(.op (.fa 4 1) [(.sl 1)])])]) (.op (.call false 81) [(.op (.ld 1 false) [(.op (.fa 5 1) [(.sl 1)])])]) (.k (.b false))) (.op (.bin .leq) [(.op (.ld 1 false) [(.op (.fa 4 1) [(.sl 1)])]), (.op (.ld 1 false) [(.op (.fa 5 1) [(.sl 1)])])]) (.k (.b false))))])
 (.ret [2])))))⟩
theorem comp88 : compile Tryz.prog Tryz.f88 = some code88 := by kernel_rfl
theorem okf88 : okFn Tryz.prog 88 = true := by kernel_rfl
-- 89: corebank/corebankref05.Name
def body89_1 : C :=
 (.seq (.seq (.q [(25, (.op (.bin .lss) [(.sl 3), (.op .slen [(.sl 0)])]))])
 (.cond (.sl 25) .skip (.exit 0 [])))
 (.seq (.blk 1 (.seq (.q [(55, (.ite (.ite (.ite (.op (.bin .lss) [(.op .idx [(.sl 0), (.sl 3)]), (.k (.i .u8 97))]) (.k (.b true)) (.op (.bin .gtr) [(.op .idx [(.sl 0), (.sl 3)]), (.k (.i .u8 122))])) (.ite (.op (.bin .lss) [(.op .idx [(.sl 0), (.sl 3)]), (.k (.i .u8 48))]) (.k (.b true)) (.op (.bin .gtr) [(.op .idx [(.sl 0), (.sl 3)]), (.k (.i .u8 57))])) (.k (.b false))) (.op (.bin .neq) [(.op .idx [(.sl 0), (.sl 3)]), (.k (.i .u8 95))]) (.k (.b false))))])
 (.cond (.sl 55) (.seq (.q [(2, (.k (.b false)))])
 (.ret [2])) .skip)))
 (.q [(3, (.op (.bin .add) [(.sl 3), (.k (.i .i64 1))]))])))
def code89 : FCode := ⟨1, [.tmp 2],
 (.seq (.q [(2, (.k (.b false)))])
 (.seq (.seq (.q [(21, (.ite (.ite (.ite (.op (.bin .lss) [(.op .slen [(.sl 0)]), (.k (.i .i64 1))]) (.k (.b true)) (.op (.bin .gtr) [(.op .slen [(.sl 0)]), (.k (.i .i64 16))])) (.k (.b true)) (.op (.bin .lss) [(.op .idx [(.sl 0), (.k (.i .i64 0))]), (.k (.i .u8 97))])) (.k (.b true)) (.op (.bin .gtr) [(.op .idx [(.sl 0), (.k (.i .i64 0))]), (.k (.i .u8 122))])))])
 (.cond (.sl 21) (.seq (.q [(2, (.k (.b false)))])
 (.ret [2])) .skip))
 (.seq (.seq (.q [(3, (.k (.i .i64 0)))])
 (.blk 0 (.loop [0, 3] body89_1)))
 (.seq (.q [(2, (.k (.b true)))])
 (.ret [2])))))⟩
theorem comp89 : compile Tryz.prog Tryz.f89 = some code89 := by kernel_rfl
theorem okf89 : okFn Tryz.prog 89 = true := by kernel_rfl
-- 90: corebank/chart.Find
def body90_1 : C :=
 (.seq (.q [(11, (.op (.bin .lss) [(.sl 10), (.sl 9)]))])
 (.seq (.cond (.sl 11) .skip (.exit 0 [4]))
 (.seq (.blk 1 (.seq (.s [.ix 12 4 (.t 8) (.t 10), .q 13 (.ld 4 true) [(.t 12)], .alo 7 [(.i .i64 0), (.i .i64 0), (.i .i64 0), (.s [])], .sto 4 (.t 7) (.t 13)] [12, 13])
 (.seq (.q [(17, (.op (.bin .eql) [(.op (.ld 1 false) [(.op (.fa 0 1) [(.sl 7)])]), (.sl 1)]))])
 (.cond (.sl 17) (.seq (.s [.q 18 (.ld 4 true) [(.t 7)], .sto 4 (.t 4) (.t 18), .as 5 (.c (.b true))] [18])
 (.ret [4, 5])) .skip))))
 (.q [(10, (.op (.bin .add) [(.sl 10), (.k (.i .i64 1))]))]))))
def code90 : FCode := ⟨2, [.cell 4 4 true, .tmp 5],
 (.seq (.s [.alo 4 [(.i .i64 0), (.i .i64 0), (.i .i64 0), (.s [])], .as 5 (.c (.b false))] [])
 (.seq (.seq (.s [.mv 8 (.t 0), .q 9 .len [(.t 8)], .mv 10 (.c (.i .i64 0))] [])
 (.blk 0 (.loop [1, 4, 8, 9, 10] body90_1)))
 (.seq (.s [.bld 20 [(.i .i64 0), (.i .i64 0), (.i .i64 0), (.s [])] [] [], .sto 4 (.t 4) (.t 20), .as 5 (.c (.b false))] [20])
 (.ret [4, 5]))))⟩
theorem comp90 : compile Tryz.prog Tryz.f90 = some code90 := by kernel_rfl
theorem okf90 : okFn Tryz.prog 90 = true := by kernel_rfl
-- 91: corebank/chart.Under
def code91 : FCode := ⟨3, [.tmp 6],
 (.seq (.q [(6, (.k (.b false)))])
 (.seq (.q [(6, (.op (.call false 140) [(.op (.call false 141) [(.sl 0), (.sl 1)]), (.sl 2)]))])
 (.ret [6])))⟩
theorem comp91 : compile Tryz.prog Tryz.f91 = some code91 := by kernel_rfl
theorem okf91 : okFn Tryz.prog 91 = true := by kernel_rfl
-- 92: slices.ContainsFunc[[]int,int]
def code92 : FCode := ⟨2, [.tmp 4],
 (.seq (.q [(4, (.k (.b false)))])
 (.seq (.q [(4, (.op (.bin .geq) [(.op (.call false 142) [(.sl 0), (.sl 1)]), (.k (.i .i64 0))]))])
 (.ret [4])))⟩
theorem comp92 : compile Tryz.prog Tryz.f92 = some code92 := by kernel_rfl
theorem okf92 : okFn Tryz.prog 92 = true := by kernel_rfl
-- 93: corebank/report.belongs$1
def code93 : FCode := ⟨3, [.tmp 4],
 (.seq (.q [(4, (.k (.b false)))])
 (.seq (.q [(4, (.op (.call false 91) [(.op (.ld 1 false) [(.op (.fa 2 1) [(.sl 1)])]), (.op (.ld 1 false) [(.sl 2)]), (.sl 0)]))])
 (.ret [4])))⟩
theorem comp93 : compile Tryz.prog Tryz.f93 = some code93 := by kernel_rfl
theorem okf93 : okFn Tryz.prog 93 = true := by kernel_rfl
-- 94: corebank/corebankref08.Seal
def code94 : FCode := ⟨1, [.tmp 2, .tmp 3],
 (.seq (.q [(2, (.k (.s []))), (3, (.k (.i .i64 0)))])
 (.seq (.seq (.q [(12, (.ite (.op (.bin .lss) [(.op .slen [(.sl 0)]), (.k (.i .i64 1))]) (.k (.b true)) (.op (.bin .gtr) [(.op .slen [(.sl 0)]), (.k (.i .i64 46))])))])
 (.cond (.sl 12) (.seq (.q [(2, (.k (.s []))), (3, (.k (.i .i64 5)))])
 (.ret [2, 3])) .skip))
 (.seq (.seq (.q [(15, (.op (.un .not) [(.op (.call false 143) [(.sl 0)])]))])
 (.cond (.sl 15) (.seq (.q [(2, (.k (.s []))), (3, (.k (.i .i64 2)))])
 (.ret [2, 3])) .skip))
 (.seq (.q [(4, (.op (.bin .sub) [(.k (.i .i64 98)), (.op (.call false 144) [(.op (.bin .add) [(.sl 0), (.k (.s [48, 48]))])])]))])
 (.seq (.q [(2, (.op (.bin .add) [(.op (.bin .add) [(.sl 0), (.op (.slcs true true) [(.k (.s [48, 49, 50, 51, 52, 53, 54, 55, 56, 57])), (.op (.bin .quo) [(.sl 4), (.k (.i .i64 10))]), (.op (.bin .add) [(.op (.bin .quo) [(.sl 4), (.k (.i .i64 10))]), (.k (.i .i64 1))])])]), (.op (.slcs true true) [(.k (.s [48, 49, 50, 51, 52, 53, 54, 55, 56, 57])), (.op (.bin .rem) [(.sl 4), (.k (.i .i64 10))]), (.op (.bin .add) [(.op (.bin .rem) [(.sl 4), (.k (.i .i64 10))]), (.k (.i .i64 1))])])])), (3, (.k (.i .i64 0)))])
 (.ret [2, 3]))))))⟩
theorem comp94 : compile Tryz.prog Tryz.f94 = some code94 := by kernel_rfl
theorem okf94 : okFn Tryz.prog 94 = true := by kernel_rfl
-- 104: corebank/account.index
def code104 : FCode := ⟨2, [.tmp 4],
 (.seq (.s [.box 2 (.t 0), .box 3 (.t 1), .as 4 (.c (.i .i64 0))] [])
 (.seq (.s [.fa 5 18 1 (.t 2), .q 6 (.ld 1 false) [(.t 5)], .mkf 7 (.func 153) 0 [(.t 3)], .call (some 8) 152 [(.t 6), (.t 7)], .as 4 (.t 8)] [5, 6, 7, 8])
 (.ret [4])))⟩
theorem comp104 : compile Tryz.prog Tryz.f104 = some code104 := by kernel_rfl
theorem okf104 : okFn Tryz.prog 104 = true := by kernel_rfl
-- 125: corebank/corebankref05.Rises
def body125_1 : C :=
 (.seq (.seq (.q [(7, (.op (.bin .lss) [(.sl 3), (.op .len [(.sl 0)])]))])
 (.cond (.sl 7) .skip (.exit 0 [])))
 (.seq (.blk 1 (.seq (.q [(19, (.op (.bin .leq) [(.op (.ld 1 false) [(.op (.ix 1) [(.sl 0), (.sl 3)])]), (.op (.ld 1 false) [(.op (.ix 1) [(.sl 0), (.op (.bin .sub) [(.sl 3), (.k (.i .i64 1))])])])]))])
 (.cond (.sl 19) (.seq (.q [(2, (.k (.b false)))])
 (.ret [2])) .skip)))
 (.q [(3, (.op (.bin .add) [(.sl 3), (.k (.i .i64 1))]))])))
def code125 : FCode := ⟨1, [.tmp 2],
 (.seq (.q [(2, (.k (.b false)))])
 (.seq (.seq (.q [(3, (.k (.i .i64 1)))])
 (.blk 0 (.loop [0, 3] body125_1)))
 (.seq (.q [(2, (.k (.b true)))])
 (.ret [2]))))⟩
theorem comp125 : compile Tryz.prog Tryz.f125 = some code125 := by kernel_rfl
theorem okf125 : okFn Tryz.prog 125 = true := by kernel_rfl
-- 126: corebank/corebankref18.Parent
def body126_1 : C :=
 (.seq (.seq (.q [(9, (.op (.bin .lss) [(.sl 5), (.op .len [(.sl 0)])]))])
 (.cond (.sl 9) .skip (.exit 0 [])))
 (.seq (.blk 1 (.seq (.q [(18, (.op (.bin .eql) [(.op (.ld 1 false) [(.op (.fa 1 1) [(.op (.ix 4) [(.sl 0), (.sl 5)])])]), (.sl 1)]))])
 (.cond (.sl 18) (.seq (.q [(4, (.k (.b true)))])
 (.ret [4])) .skip)))
 (.q [(5, (.op (.bin .add) [(.sl 5), (.k (.i .i64 1))]))])))
def code126 : FCode := ⟨2, [.tmp 4],
 (.seq (.q [(4, (.k (.b false)))])
 (.seq (.seq (.q [(5, (.k (.i .i64 0)))])
 (.blk 0 (.loop [0, 1, 5] body126_1)))
 (.seq (.q [(4, (.k (.b false)))])
 (.ret [4]))))⟩
theorem comp126 : compile Tryz.prog Tryz.f126 = some code126 := by kernel_rfl
theorem okf126 : okFn Tryz.prog 126 = true := by kernel_rfl
-- 127: corebank/corebankref17.before
def code127 : FCode := ⟨2, [.tmp 4],
 (.seq (.s [.box 2 (.t 0), .box 3 (.t 1), .as 4 (.c (.b false))] [])
 (.seq (.q [(4, (.ite (.op (.bin .lss) [(.op (.ld 1 false) [(.op (.fa 0 1) [(.sl 2)])]), (.op (.ld 1 false) [(.op (.fa 0 1) [(.sl 3)])])]) (.k (.b true)) (.ite (.op (.bin .eql) [(.op (.ld 1 false) [(.op (.fa 0 1) [(.sl 2)])]), (.op (.ld 1 false) [(.op (.fa 0 1) [(.sl 3)])])]) (.op (.bin .lss) [(.op (.ld 1 false) [(.op (.fa 3 1) [(.sl 2)])]), (.op (.ld 1 false) [(.op (.fa 3 1) [(.sl 3)])])]) (.k (.b false)))))])
 (.ret [4])))⟩
theorem comp127 : compile Tryz.prog Tryz.f127 = some code127 := by kernel_rfl
theorem okf127 : okFn Tryz.prog 127 = true := by kernel_rfl
-- 128: corebank/corebankref15.Name
def body128_1 : C :=
 (.seq (.seq (.q [(24, (.op (.bin .lss) [(.sl 3), (.op .slen [(.sl 0)])]))])
 (.cond (.sl 24) .skip (.exit 0 [])))
 (.seq (.blk 1 (.seq (.q [(54, (.ite (.ite (.ite (.op (.bin .lss) [(.op .idx [(.sl 0), (.sl 3)]), (.k (.i .u8 97))]) (.k (.b true)) (.op (.bin .gtr) [(.op .idx [(.sl 0), (.sl 3)]), (.k (.i .u8 122))])) (.ite (.op (.bin .lss) [(.op .idx [(.sl 0), (.sl 3)]), (.k (.i .u8 48))]) (.k (.b true)) (.op (.bin .gtr) [(.op .idx [(.sl 0), (.sl 3)]), (.k (.i .u8 57))])) (.k (.b false))) (.op (.bin .neq) [(.op .idx [(.sl 0), (.sl 3)]), (.k (.i .u8 95))]) (.k (.b false))))])
 (.cond (.sl 54) (.seq (.q [(2, (.k (.b false)))])
 (.ret [2])) .skip)))
 (.q [(3, (.op (.bin .add) [(.sl 3), (.k (.i .i64 1))]))])))
def code128 : FCode := ⟨1, [.tmp 2],
 (.seq (.q [(2, (.k (.b false)))])
 (.seq (.seq (.q [(20, (.ite (.ite (.ite (.op (.bin .eql) [(.sl 0), (.k (.s []))]) (.k (.b true)) (.op (.bin .gtr) [(.op .slen [(.sl 0)]), (.k (.i .i64 16))])) (.k (.b true)) (.op (.bin .lss) [(.op .idx [(.sl 0), (.k (.i .i64 0))]), (.k (.i .u8 97))])) (.k (.b true)) (.op (.bin .gtr) [(.op .idx [(.sl 0), (.k (.i .i64 0))]), (.k (.i .u8 122))])))])
 (.cond (.sl 20) (.seq (.q [(2, (.k (.b false)))])
 (.ret [2])) .skip))
 (.seq (.seq (.q [(3, (.k (.i .i64 1)))])
 (.blk 0 (.loop [0, 3] body128_1)))
 (.seq (.q [(2, (.k (.b true)))])
 (.ret [2])))))⟩
theorem comp128 : compile Tryz.prog Tryz.f128 = some code128 := by kernel_rfl
theorem okf128 : okFn Tryz.prog 128 = true := by kernel_rfl
-- 129: corebank/corebankref03.Find
def body129_1 : C :=
 (.seq (.seq (.q [(10, (.op (.bin .lss) [(.sl 6), (.op .len [(.sl 0)])]))])
 (.cond (.sl 10) .skip (.exit 0 [4])))
 (.seq (.blk 1 (.seq (.q [(19, (.op (.bin .eql) [(.op (.ld 1 false) [(.op (.fa 0 1) [(.op (.ix 2) [(.sl 0), (.sl 6)])])]), (.sl 1)]))])
 (.cond (.sl 19) (.seq (.s [.mv 20 (.t 0), .mv 21 (.t 6), .ix 22 2 (.t 20) (.t 21), .q 23 (.ld 2 true) [(.t 22)], .sto 2 (.t 4) (.t 23), .as 5 (.c (.b true))] [20, 21, 22, 23])
 (.ret [4, 5])) .skip)))
 (.q [(6, (.op (.bin .add) [(.sl 6), (.k (.i .i64 1))]))])))
def code129 : FCode := ⟨2, [.cell 4 2 true, .tmp 5],
 (.seq (.s [.alo 4 [(.s []), (.i .i64 0)], .as 5 (.c (.b false))] [])
 (.seq (.seq (.q [(6, (.k (.i .i64 0)))])
 (.blk 0 (.loop [0, 1, 4, 6] body129_1)))
 (.seq (.s [.bld 24 [(.s []), (.i .i64 0)] [] [], .sto 2 (.t 4) (.t 24), .as 5 (.c (.b false))] [24])
 (.ret [4, 5]))))⟩
theorem comp129 : compile Tryz.prog Tryz.f129 = some code129 := by kernel_rfl
theorem okf129 : okFn Tryz.prog 129 = true := by kernel_rfl
-- 130: corebank/corebankref05.Find
def body130_1 : C :=
 (.seq (.seq (.q [(10, (.op (.bin .lss) [(.sl 6), (.op .len [(.sl 0)])]))])
 (.cond (.sl 10) .skip (.exit 0 [4])))
 (.seq (.blk 1 (.seq (.q [(19, (.op (.bin .eql) [(.op (.ld 1 false) [(.op (.fa 0 1) [(.op (.ix 3) [(.sl 0), (.sl 6)])])]), (.sl 1)]))])
 (.cond (.sl 19) (.seq (.s [.mv 20 (.t 0), .mv 21 (.t 6), .ix 22 3 (.t 20) (.t 21), .q 23 (.ld 3 true) [(.t 22)], .sto 3 (.t 4) (.t 23), .as 5 (.c (.b true))] [20, 21, 22, 23])
 (.ret [4, 5])) .skip)))
 (.q [(6, (.op (.bin .add) [(.sl 6), (.k (.i .i64 1))]))])))
def code130 : FCode := ⟨2, [.cell 4 3 true, .tmp 5],
 (.seq (.s [.alo 4 [(.s []), (.l []), (.l [])], .as 5 (.c (.b false))] [])
 (.seq (.seq (.q [(6, (.k (.i .i64 0)))])
 (.blk 0 (.loop [0, 1, 4, 6] body130_1)))
 (.seq (.s [.bld 24 [(.s []), (.l []), (.l [])] [] [], .sto 3 (.t 4) (.t 24), .as 5 (.c (.b false))] [24])
 (.ret [4, 5]))))⟩
theorem comp130 : compile Tryz.prog Tryz.f130 = some code130 := by kernel_rfl
theorem okf130 : okFn Tryz.prog 130 = true := by kernel_rfl
-- 131: corebank/corebankref15.interest
def code131 : FCode := ⟨1, [.tmp 2],
 (.seq (.s [.box 1 (.t 0), .as 2 (.c (.i .i64 0))] [])
 (.seq (.seq (.q [(3, (.op (.call false 172) [(.op (.ld 1 false) [(.op (.fa 0 1) [(.sl 1)])])]))])
 (.seq (.q [(8, (.op (.bin .neq) [(.sl 3), (.k (.i .i64 0))]))])
 (.cond (.sl 8) (.seq (.q [(2, (.sl 3))])
 (.ret [2])) .skip)))
 (.seq (.seq (.q [(27, (.ite (.ite (.ite (.op (.bin .lss) [(.op (.ld 1 false) [(.op (.fa 2 1) [(.sl 1)])]), (.k (.i .i64 1))]) (.k (.b true)) (.op (.bin .gtr) [(.op (.ld 1 false) [(.op (.fa 2 1) [(.sl 1)])]), (.k (.i .i64 4))])) (.k (.b true)) (.op (.bin .lss) [(.op (.ld 1 false) [(.op (.fa 3 1) [(.sl 1)])]), (.k (.i .i64 1))])) (.k (.b true)) (.op (.bin .gtr) [(.op (.ld 1 false) [(.op (.fa 3 1) [(.sl 1)])]), (.k (.i .i64 6))])))])
 (.cond (.sl 27) (.seq (.q [(2, (.k (.i .i64 1)))])
 (.ret [2])) .skip))
 (.seq (.q [(2, (.k (.i .i64 0)))])
 (.ret [2])))))⟩
theorem comp131 : compile Tryz.prog Tryz.f131 = some code131 := by kernel_rfl
theorem okf131 : okFn Tryz.prog 131 = true := by kernel_rfl
-- 132: corebank/corebankref15.fee
def code132 : FCode := ⟨1, [.tmp 2],
 (.seq (.s [.box 1 (.t 0), .as 2 (.c (.i .i64 0))] [])
 (.seq (.seq (.q [(7, (.op (.un .not) [(.op (.call false 128) [(.op (.ld 1 false) [(.op (.fa 0 1) [(.sl 1)])])])]))])
 (.cond (.sl 7) (.seq (.q [(2, (.k (.i .i64 4)))])
 (.ret [2])) .skip))
 (.seq (.seq (.q [(15, (.ite (.op (.bin .lss) [(.op (.ld 1 false) [(.op (.fa 1 1) [(.sl 1)])]), (.k (.i .i64 1))]) (.k (.b true)) (.op (.bin .gtr) [(.op (.ld 1 false) [(.op (.fa 1 1) [(.sl 1)])]), (.k (.i .i64 4))])))])
 (.cond (.sl 15) (.seq (.q [(2, (.k (.i .i64 1)))])
 (.ret [2])) .skip))
 (.seq (.seq (.q [(3, (.op (.call false 173) [(.op (.ld 4 true) [(.op (.fa 2 4) [(.sl 1)])]), (.op (.call false 174) []), (.k (.i .i64 5))]))])
 (.seq (.q [(21, (.op (.bin .neq) [(.sl 3), (.k (.i .i64 0))]))])
 (.cond (.sl 21) (.seq (.q [(2, (.sl 3))])
 (.ret [2])) .skip)))
 (.seq (.q [(2, (.op (.call false 173) [(.op (.ld 4 true) [(.op (.fa 6 4) [(.sl 1)])]), (.op (.call false 174) []), (.k (.i .i64 2))]))])
 (.ret [2]))))))⟩
theorem comp132 : compile Tryz.prog Tryz.f132 = some code132 := by kernel_rfl
theorem okf132 : okFn Tryz.prog 132 = true := by kernel_rfl
-- 133: corebank/corebankref15.rule
def code133 : FCode := ⟨1, [.tmp 2],
 (.seq (.s [.box 1 (.t 0), .as 2 (.c (.i .i64 0))] [])
 (.seq (.seq (.q [(6, (.op (.un .not) [(.op (.call false 128) [(.op (.ld 1 false) [(.op (.fa 0 1) [(.sl 1)])])])]))])
 (.cond (.sl 6) (.seq (.q [(2, (.k (.i .i64 4)))])
 (.ret [2])) .skip))
 (.seq (.seq (.q [(14, (.ite (.op (.bin .lss) [(.op (.ld 1 false) [(.op (.fa 1 1) [(.sl 1)])]), (.k (.i .i64 1))]) (.k (.b true)) (.op (.bin .gtr) [(.op (.ld 1 false) [(.op (.fa 1 1) [(.sl 1)])]), (.k (.i .i64 3))])))])
 (.cond (.sl 14) (.seq (.q [(2, (.k (.i .i64 1)))])
 (.ret [2])) .skip))
 (.seq (.q [(2, (.op (.call false 173) [(.op (.ld 4 true) [(.op (.fa 2 4) [(.sl 1)])]), (.op (.call false 174) []), (.k (.i .i64 2))]))])
 (.ret [2])))))⟩
theorem comp133 : compile Tryz.prog Tryz.f133 = some code133 := by kernel_rfl
theorem okf133 : okFn Tryz.prog 133 = true := by kernel_rfl
-- 134: corebank/corebankref17.At
def body134_1 : C :=
 (.seq (.seq (.q [(13, (.op (.bin .lss) [(.sl 9), (.op .len [(.sl 0)])]))])
 (.cond (.sl 13) .skip (.exit 0 [0, 6, 8])))
 (.seq (.blk 1 (.seq (.q [(48, (.ite (.ite (.op (.bin .eql) [(.op (.ld 1 false) [(.op (.fa 0 1) [(.op (.ix 19) [(.sl 0), (.sl 9)])])]), (.sl 1)]) (.op (.bin .leq) [(.op (.ld 1 false) [(.op (.fa 3 1) [(.op (.ix 19) [(.sl 0), (.sl 9)])])]), (.sl 2)]) (.k (.b false))) (.ite (.op (.bin .lss) [(.sl 8), (.k (.i .i64 0))]) (.k (.b true)) (.op (.bin .gtr) [(.op (.ld 1 false) [(.op (.fa 3 1) [(.op (.ix 19) [(.sl 0), (.sl 9)])])]), (.op (.ld 1 false) [(.op (.fa 3 1) [(.op (.ix 19) [(.sl 0), (.sl 8)])])])])) (.k (.b false))))])
 (.cond (.sl 48) (.q [(8, (.sl 9))]) .skip)))
 (.q [(9, (.op (.bin .add) [(.sl 9), (.k (.i .i64 1))]))])))
def code134 : FCode := ⟨3, [.cell 6 19 true, .tmp 7],
 (.seq (.s [.alo 6 [(.s []), (.s []), (.s []), (.i .i64 0), (.i .i64 0), (.i .i64 0), (.i .i64 0), (.l []), (.b false), (.i .i64 0), (.i .i64 0), (.b false), (.l []), (.b false), (.i .i64 0), (.i .i64 0), (.b false), (.l []), (.l [])], .as 7 (.c (.b false))] [])
 (.seq (.q [(8, (.k (.i .i64 (-1))))])
 (.seq (.seq (.q [(9, (.k (.i .i64 0)))])
 (.blk 0 (.loop [0, 1, 2, 6, 8, 9] body134_1)))
 (.seq (.seq (.q [(51, (.op (.bin .lss) [(.sl 8), (.k (.i .i64 0))]))])
 (.cond (.sl 51) (.seq (.s [.bld 52 [(.s []), (.s []), (.s []), (.i .i64 0), (.i .i64 0), (.i .i64 0), (.i .i64 0), (.l []), (.b false), (.i .i64 0), (.i .i64 0), (.b false), (.l []), (.b false), (.i .i64 0), (.i .i64 0), (.b false), (.l []), (.l [])] [] [], .sto 19 (.t 6) (.t 52), .as 7 (.c (.b false))] [52])
 (.ret [6, 7])) .skip))
 (.seq (.s [.mv 53 (.t 0), .mv 54 (.t 8), .ix 55 19 (.t 53) (.t 54), .q 56 (.ld 19 true) [(.t 55)], .sto 19 (.t 6) (.t 56), .as 7 (.c (.b true))] [53, 54, 55, 56])
 (.ret [6, 7]))))))⟩
theorem comp134 : compile Tryz.prog Tryz.f134 = some code134 := by kernel_rfl
theorem okf134 : okFn Tryz.prog 134 = true := by kernel_rfl
-- 135: corebank/corebankref20.Examine
def body135_1 : C :=
 (.seq (.seq (.q [(15, (.op (.bin .lss) [(.sl 6), (.op .len [(.sl 0)])]))])
 (.cond (.sl 15) .skip (.exit 0 [0, 3])))
 (.seq (.blk 1 (.seq (.q [(25, (.op (.bin .eql) [(.op (.ld 1 false) [(.op (.fa 6 1) [(.op (.ix 10) [(.sl 0), (.sl 6)])])]), (.op (.ld 1 false) [(.op (.fa 6 1) [(.sl 3)])])]))])
 (.cond (.sl 25) (.seq (.q [(4, (.k (.i .i64 12)))])
 (.ret [4])) .skip)))
 (.q [(6, (.op (.bin .add) [(.sl 6), (.k (.i .i64 1))]))])))
def code135 : FCode := ⟨2, [.tmp 4],
 (.seq (.s [.box 3 (.t 1), .as 4 (.c (.i .i64 0))] [])
 (.seq (.q [(5, (.op (.call false 175) [(.op (.ld 10 true) [(.sl 3)])]))])
 (.seq (.seq (.q [(10, (.op (.bin .neq) [(.sl 5), (.k (.i .i64 0))]))])
 (.cond (.sl 10) (.seq (.q [(4, (.sl 5))])
 (.ret [4])) .skip))
 (.seq (.seq (.q [(6, (.k (.i .i64 0)))])
 (.blk 0 (.loop [0, 3, 6] body135_1)))
 (.seq (.seq (.q [(40, (.ite (.op (.bin .gtr) [(.op .len [(.sl 0)]), (.k (.i .i64 0))]) (.op (.bin .lss) [(.op (.ld 1 false) [(.op (.fa 1 1) [(.sl 3)])]), (.op (.ld 1 false) [(.op (.fa 1 1) [(.op (.ix 10) [(.sl 0), (.op (.bin .sub) [(.op .len [(.sl 0)]), (.k (.i .i64 1))])])])])]) (.k (.b false))))])
 (.cond (.sl 40) (.seq (.q [(4, (.k (.i .i64 10)))])
 (.ret [4])) .skip))
 (.seq (.seq (.q [(43, (.op (.bin .geq) [(.op .len [(.sl 0)]), (.k (.i .i64 4096))]))])
 (.cond (.sl 43) (.seq (.q [(4, (.k (.i .i64 5)))])
 (.ret [4])) .skip))
 (.seq (.q [(4, (.k (.i .i64 0)))])
 (.ret [4]))))))))⟩
theorem comp135 : compile Tryz.prog Tryz.f135 = some code135 := by kernel_rfl
theorem okf135 : okFn Tryz.prog 135 = true := by kernel_rfl
-- 136: corebank/corebankref19.Same
def code136 : FCode := ⟨2, [.tmp 4],
 (.seq (.s [.box 2 (.t 0), .box 3 (.t 1), .as 4 (.c (.b false))] [])
 (.seq (.q [(4, (.ite (.ite (.ite (.ite (.ite (.ite (.ite (.ite (.ite (.op (.bin .eql) [(.op (.ld 1 false) [(.op (.fa 0 1) [(.sl 2)])]), (.op (.ld 1 false) [(.op (.fa 0 1) [(.sl 3)])])]) (.op (.bin .eql) [(.op (.ld 1 false) [(.op (.fa 1 1) [(.sl 2)])]), (.op (.ld 1 false) [(.op (.fa 1 1) [(.sl 3)])])]) (.k (.b false))) (.op (.bin .eql) [(.op (.ld 1 false) [(.op (.fa 2 1) [(.sl 2)])]), (.op (.ld 1 false) [(.op (.fa 2 1) [(.sl 3)])])]) (.k (.b false))) (.op (.bin .eql) [(.op (.ld 1 false) [(.op (.fa 3 1) [(.sl 2)])]), (.op (.ld 1 false) [(.op (.fa 3 1) [(.sl 3)])])]) (.k (.b false))) (.op (.bin .eql) [(.op (.ld 1 false) [(.op (.fa 4 1) [(.sl 2)])]), (.op (.ld 1 false) [(.op (.fa 4 1) [(.sl 3)])])]) (.k (.b false))) (.op (.bin .eql) [(.op (.ld 1 false) [(.op (.fa 5 1) [(.sl 2)])]), (.op (.ld 1 false) [(.op (.fa 5 1) [(.sl 3)])])]) (.k (.b false))) (.op (.bin .eql) [(.op (.ld 1 false) [(.op (.fa 6 1) [(.sl 2)])]), (.op (.ld 1 false) [(.op (.fa 6 1) [(.sl 3)])])]) (.k (.b false))) (.op (.bin .eql) [(.op (.ld 1 false) [(.op (.fa 7 1) [(.sl 2)])]), (.op (.ld 1 false) [(.op (.fa 7 1) [(.sl 3)])])]) (.k (.b false))) (.op (.bin .eql) [(.op (.ld 1 false) [(.op (.fa 9 1) [(.sl 2)])]), (.op (.ld 1 false) [(.op (.fa 9 1) [(.sl 3)])])]) (.k (.b false))) (.op (.call false 176) [(.op (.ld 1 false) [(.op (.fa 8 1) [(.sl 2)])]), (.op (.ld 1 false) [(.op (.fa 8 1) [(.sl 3)])])]) (.k (.b false))))])
 (.ret [4])))⟩
theorem comp136 : compile Tryz.prog Tryz.f136 = some code136 := by kernel_rfl
theorem okf136 : okFn Tryz.prog 136 = true := by kernel_rfl
-- 137: corebank/corebankref20.next
def code137 : FCode := ⟨2, [.cell 4 10 true],
 (.seq (.s [.box 3 (.t 1), .alo 4 [(.i .i64 0), (.i .i64 0), (.i .i64 0), (.i .i64 0), (.i .i64 0), (.i .i64 0), (.s []), (.s []), (.l []), (.i .u64 0)]] [])
 (.seq (.q [(5, (.k (.i .u64 0)))])
 (.seq (.seq (.q [(8, (.op (.bin .gtr) [(.op .len [(.sl 0)]), (.k (.i .i64 0))]))])
 (.cond (.sl 8) (.q [(5, (.op (.ld 1 false) [(.op (.fa 9 1) [(.op (.ix 10) [(.sl 0), (.op (.bin .sub) [(.op .len [(.sl 0)]), (.k (.i .i64 1))])])])]))]) .skip))
 (.seq (.s [.mv 16 (.t 0), .q 17 .len [(.t 16)], .q 18 (.bin .add) [(.t 17), (.c (.i .i64 1))], .fa 19 0 1 (.t 3), .sto 1 (.t 19) (.t 18)] [16, 17, 18, 19])
 (.seq (.s [.mv 20 (.t 5), .q 21 (.ld 10 true) [(.t 3)], .call (some 22) 178 [(.t 21)], .call (some 23) 177 [(.t 20), (.t 22)], .fa 24 9 1 (.t 3), .sto 1 (.t 24) (.t 23)] [20, 21, 22, 23, 24])
 (.seq (.s [.q 25 (.ld 10 true) [(.t 3)], .sto 10 (.t 4) (.t 25)] [25])
 (.ret [4])))))))⟩
theorem comp137 : compile Tryz.prog Tryz.f137 = some code137 := by kernel_rfl
theorem okf137 : okFn Tryz.prog 137 = true := by kernel_rfl
-- 138: corebank/corebankref26.leg
def code138 : FCode := ⟨3, [.tmp 6],
 (.seq (.s [.box 3 (.t 0), .box 4 (.t 1), .as 6 (.c (.i .i64 0))] [])
 (.seq (.s [.fa 16 0 1 (.t 3), .q 17 (.ld 1 false) [(.t 16)], .fa 18 2 1 (.t 4), .q 19 (.ld 1 false) [(.t 18)], .call (some 20) 129 [(.t 17), (.t 19)], .mv 15 (.t 20), .ext 21 0 15, .ext 22 1 15, .alo 7 [(.s []), (.i .i64 0)], .sto 2 (.t 7) (.t 21), .as 8 (.t 22)] [16, 17, 18, 19, 20, 15, 21, 22, 7])
 (.seq (.seq (.q [(25, (.op (.bin .lss) [(.op (.ld 1 false) [(.op (.fa 0 1) [(.sl 4)])]), (.k (.i .i64 1000))]))])
 (.cond (.sl 25) (.seq (.s [.fa 27 2 1 (.t 3), .q 28 (.ld 1 false) [(.t 27)], .fa 29 0 1 (.t 4), .q 30 (.ld 1 false) [(.t 29)], .call (some 31) 77 [(.t 28), (.t 30)], .mv 26 (.t 31), .ext 32 0 26, .ext 33 1 26, .alo 9 [(.i .i64 0), (.i .i64 0), (.i .i64 0), (.s [])], .sto 4 (.t 9) (.t 32), .as 10 (.t 33)] [27, 28, 29, 30, 31, 26, 32, 33, 9])
 (.seq (.seq (.q [(42, (.ite (.op (.un .not) [(.sl 10)]) (.k (.b true)) (.op (.call false 179) [(.op (.ld 1 false) [(.op (.fa 2 1) [(.sl 3)])]), (.op (.ld 1 false) [(.op (.fa 0 1) [(.sl 4)])])])))])
 (.cond (.sl 42) (.seq (.q [(6, (.k (.i .i64 11)))])
 (.ret [6])) .skip))
 (.seq (.seq (.q [(44, (.op (.un .not) [(.sl 8)]))])
 (.cond (.sl 44) (.seq (.q [(6, (.k (.i .i64 14)))])
 (.ret [6])) .skip))
 (.seq (.q [(6, (.k (.i .i64 0)))])
 (.ret [6]))))) .skip))
 (.seq (.s [.q 46 (.ld 22 true) [(.t 3)], .fa 47 0 1 (.t 4), .q 48 (.ld 1 false) [(.t 47)], .call (some 49) 180 [(.t 46), (.t 48)], .mv 45 (.t 49), .ext 50 0 45, .ext 51 1 45, .alo 11 [(.i .i64 0), (.i .i64 0), (.i .i64 0), (.i .i64 0), (.s []), (.s []), (.s [])], .sto 7 (.t 11) (.t 50), .as 12 (.t 51)] [46, 47, 48, 49, 45, 50, 51])
 (.seq (.seq (.q [(53, (.op (.un .not) [(.sl 12)]))])
 (.cond (.sl 53) (.seq (.q [(6, (.k (.i .i64 11)))])
 (.ret [6])) .skip))
 (.seq (.s [.fa 55 17 1 (.t 3), .q 56 (.ld 1 false) [(.t 55)], .fa 57 5 1 (.t 11), .q 58 (.ld 1 false) [(.t 57)], .fa 59 1 1 (.t 11), .q 60 (.ld 1 false) [(.t 59)], .call (some 61) 134 [(.t 56), (.t 58), (.t 60)], .mv 54 (.t 61), .ext 62 0 54, .ext 63 1 54, .alo 13 [(.s []), (.s []), (.s []), (.i .i64 0), (.i .i64 0), (.i .i64 0), (.i .i64 0), (.l []), (.b false), (.i .i64 0), (.i .i64 0), (.b false), (.l []), (.b false), (.i .i64 0), (.i .i64 0), (.b false), (.l []), (.l [])], .sto 19 (.t 13) (.t 62), .as 14 (.t 63)] [55, 56, 57, 58, 59, 60, 61, 54, 62, 63])
 (.seq (.seq (.q [(76, (.ite (.ite (.op (.un .not) [(.sl 8)]) (.k (.b true)) (.op (.un .not) [(.sl 14)])) (.k (.b true)) (.op (.bin .neq) [(.op (.ld 1 false) [(.op (.fa 1 1) [(.sl 13)])]), (.op (.ld 1 false) [(.op (.fa 2 1) [(.sl 4)])])])))])
 (.cond (.sl 76) (.seq (.q [(6, (.k (.i .i64 14)))])
 (.ret [6])) .skip))
 (.seq (.seq (.q [(82, (.op (.un .not) [(.op (.call false 181) [(.op (.ld 22 true) [(.sl 3)]), (.op (.ld 1 false) [(.op (.fa 0 1) [(.sl 4)])]), (.sl 2)])]))])
 (.cond (.sl 82) (.seq (.q [(6, (.k (.i .i64 16)))])
 (.ret [6])) .skip))
 (.seq (.q [(6, (.k (.i .i64 0)))])
 (.ret [6]))))))))))⟩
theorem comp138 : compile Tryz.prog Tryz.f138 = some code138 := by kernel_rfl
theorem okf138 : okFn Tryz.prog 138 = true := by kernel_rfl
-- 139: corebank/corebankref07.Key
def code139 : FCode := ⟨1, [.tmp 2],
 (.seq (.q [(2, (.k (.b false)))])
 (.seq (.q [(2, (.ite (.op (.bin .geq) [(.op .slen [(.sl 0)]), (.k (.i .i64 1))]) (.op (.call false 182) [(.sl 0), (.k (.i .i64 48)), (.k (.i .u8 33))]) (.k (.b false))))])
 (.ret [2])))⟩
theorem comp139 : compile Tryz.prog Tryz.f139 = some code139 := by kernel_rfl
theorem okf139 : okFn Tryz.prog 139 = true := by kernel_rfl
-- 140: slices.Contains[[]int,int]
def code140 : FCode := ⟨2, [.tmp 4],
 (.seq (.q [(4, (.k (.b false)))])
 (.seq (.q [(4, (.op (.bin .geq) [(.op (.call false 183) [(.sl 0), (.sl 1)]), (.k (.i .i64 0))]))])
 (.ret [4])))⟩
theorem comp140 : compile Tryz.prog Tryz.f140 = some code140 := by kernel_rfl
theorem okf140 : okFn Tryz.prog 140 = true := by kernel_rfl
-- 141: corebank/chart.Path
def body141_1 : C :=
 (.seq (.seq (.q [(19, (.ite (.sl 7) (.op (.bin .lss) [(.op .len [(.sl 5)]), (.k (.i .i64 40))]) (.k (.b false))))])
 (.cond (.sl 19) .skip (.exit 0 [5])))
 (.blk 1 (.seq (.s [.mv 20 (.t 5), .fa 21 0 1 (.t 6), .q 22 (.ld 1 false) [(.t 21)], .bsl 23 3 1 [(.t 22)], .app 24 3 1 8 (.t 20) (.t 23), .as 5 (.t 24)] [20, 21, 22, 23, 24])
 (.seq (.seq (.q [(27, (.op (.bin .eql) [(.op (.ld 1 false) [(.op (.fa 1 1) [(.sl 6)])]), (.k (.i .i64 0))]))])
 (.cond (.sl 27) (.exit 0 [5]) .skip))
 (.s [.mv 29 (.t 0), .fa 30 1 1 (.t 6), .q 31 (.ld 1 false) [(.t 30)], .call (some 32) 90 [(.t 29), (.t 31)], .mv 28 (.t 32), .ext 33 0 28, .ext 34 1 28, .sto 4 (.t 6) (.t 33), .as 7 (.t 34)] [29, 30, 31, 32, 28, 33, 34])))))
def code141 : FCode := ⟨2, [.tmp 4],
 (.seq (.s [.as 4 (.c (.ow 3 []))] [])
 (.seq (.s [.as 5 (.c (.ow 3 []))] [])
 (.seq (.s [.mv 9 (.t 0), .mv 10 (.t 1), .call (some 11) 90 [(.t 9), (.t 10)], .mv 8 (.t 11), .ext 12 0 8, .ext 13 1 8, .alo 6 [(.i .i64 0), (.i .i64 0), (.i .i64 0), (.s [])], .sto 4 (.t 6) (.t 12), .as 7 (.t 13)] [9, 10, 11, 8, 12, 13])
 (.seq (.blk 0 (.loop [0, 5, 6, 7] body141_1))
 (.seq (.s [.mv 35 (.t 5), .callm (some 36) 184 (mutOf 184) (.t 35) []] [35, 36])
 (.seq (.s [.mv 37 (.t 5), .as 4 (.t 37)] [37])
 (.ret [4])))))))⟩
theorem comp141 : compile Tryz.prog Tryz.f141 = some code141 := by kernel_rfl
theorem okf141 : okFn Tryz.prog 141 = true := by kernel_rfl
-- 142: slices.IndexFunc[[]int,int]
def body142_1 : C :=
 (.seq (.q [(9, (.op (.bin .lss) [(.sl 8), (.sl 7)]))])
 (.seq (.cond (.sl 9) .skip (.exit 0 []))
 (.seq (.blk 1 (.seq (.q [(5, (.sl 8))])
 (.seq (.q [(16, (.op (.callv false) [(.sl 1), (.op (.ld 1 false) [(.op (.ix 1) [(.sl 0), (.sl 5)])])]))])
 (.cond (.sl 16) (.seq (.q [(4, (.sl 5))])
 (.ret [4])) .skip))))
 (.q [(8, (.op (.bin .add) [(.sl 8), (.k (.i .i64 1))]))]))))
def code142 : FCode := ⟨2, [.tmp 4],
 (.seq (.q [(4, (.k (.i .i64 0)))])
 (.seq (.seq (.q [(7, (.op .len [(.sl 0)])), (8, (.k (.i .i64 0)))])
 (.blk 0 (.loop [0, 1, 7, 8] body142_1)))
 (.seq (.q [(4, (.k (.i .i64 (-1))))])
 (.ret [4]))))⟩
theorem comp142 : compile Tryz.prog Tryz.f142 = some code142 := by kernel_rfl
theorem okf142 : okFn Tryz.prog 142 = true := by kernel_rfl
-- 143: corebank/corebankref08.Plain
def body143_1 : C :=
 (.seq (.seq (.q [(7, (.op (.bin .lss) [(.sl 3), (.op .slen [(.sl 0)])]))])
 (.cond (.sl 7) .skip (.exit 0 [])))
 (.seq (.blk 1 (.seq (.q [(31, (.ite (.ite (.op (.bin .lss) [(.op .idx [(.sl 0), (.sl 3)]), (.k (.i .u8 48))]) (.k (.b true)) (.op (.bin .gtr) [(.op .idx [(.sl 0), (.sl 3)]), (.k (.i .u8 57))])) (.ite (.op (.bin .lss) [(.op .idx [(.sl 0), (.sl 3)]), (.k (.i .u8 65))]) (.k (.b true)) (.op (.bin .gtr) [(.op .idx [(.sl 0), (.sl 3)]), (.k (.i .u8 90))])) (.k (.b false))))])
 (.cond (.sl 31) (.seq (.q [(2, (.k (.b false)))])
 (.ret [2])) .skip)))
 (.q [(3, (.op (.bin .add) [(.sl 3), (.k (.i .i64 1))]))])))
def code143 : FCode := ⟨1, [.tmp 2],
 (.seq (.q [(2, (.k (.b false)))])
 (.seq (.seq (.q [(3, (.k (.i .i64 0)))])
 (.blk 0 (.loop [0, 3] body143_1)))
 (.seq (.q [(2, (.k (.b true)))])
 (.ret [2]))))⟩
theorem comp143 : compile Tryz.prog Tryz.f143 = some code143 := by kernel_rfl
theorem okf143 : okFn Tryz.prog 143 = true := by kernel_rfl
-- 144: corebank/corebankref08.rest
def body144_1 : C :=
 (.seq (.seq (.q [(8, (.op (.bin .lss) [(.sl 4), (.op .slen [(.sl 0)])]))])
 (.cond (.sl 8) .skip (.exit 0 [3])))
 (.seq (.blk 1 (.seq (.q [(14, (.op (.bin .leq) [(.op .idx [(.sl 0), (.sl 4)]), (.k (.i .u8 57))]))])
 (.cond (.sl 14) (.q [(3, (.op (.bin .rem) [(.op (.bin .add) [(.op (.bin .mul) [(.k (.i .i64 10)), (.sl 3)]), (.op (.cnv .i64) [(.op (.bin .sub) [(.op .idx [(.sl 0), (.sl 4)]), (.k (.i .u8 48))])])]), (.k (.i .i64 97))]))]) (.q [(3, (.op (.bin .rem) [(.op (.bin .add) [(.op (.bin .add) [(.op (.bin .mul) [(.k (.i .i64 100)), (.sl 3)]), (.op (.cnv .i64) [(.op (.bin .sub) [(.op .idx [(.sl 0), (.sl 4)]), (.k (.i .u8 65))])])]), (.k (.i .i64 10))]), (.k (.i .i64 97))]))]))))
 (.q [(4, (.op (.bin .add) [(.sl 4), (.k (.i .i64 1))]))])))
def code144 : FCode := ⟨1, [.tmp 2],
 (.seq (.q [(2, (.k (.i .i64 0)))])
 (.seq (.q [(3, (.k (.i .i64 0)))])
 (.seq (.seq (.q [(4, (.k (.i .i64 0)))])
 (.blk 0 (.loop [0, 3, 4] body144_1)))
 (.seq (.q [(2, (.sl 3))])
 (.ret [2])))))⟩
theorem comp144 : compile Tryz.prog Tryz.f144 = some code144 := by kernel_rfl
theorem okf144 : okFn Tryz.prog 144 = true := by kernel_rfl
-- 152: slices.IndexFunc[[]corebank/api.Account,corebank/api.Account]
def body152_1 : C :=
 (.seq (.q [(9, (.op (.bin .lss) [(.sl 8), (.sl 7)]))])
 (.seq (.cond (.sl 9) .skip (.exit 0 []))
 (.seq (.blk 1 (.seq (.q [(5, (.sl 8))])
 (.seq (.q [(16, (.op (.callv false) [(.sl 1), (.op (.ld 7 true) [(.op (.ix 7) [(.sl 0), (.sl 5)])])]))])
 (.cond (.sl 16) (.seq (.q [(4, (.sl 5))])
 (.ret [4])) .skip))))
 (.q [(8, (.op (.bin .add) [(.sl 8), (.k (.i .i64 1))]))]))))
def code152 : FCode := ⟨2, [.tmp 4],
 (.seq (.q [(4, (.k (.i .i64 0)))])
 (.seq (.seq (.q [(7, (.op .len [(.sl 0)])), (8, (.k (.i .i64 0)))])
 (.blk 0 (.loop [0, 1, 7, 8] body152_1)))
 (.seq (.q [(4, (.k (.i .i64 (-1))))])
 (.ret [4]))))⟩
theorem comp152 : compile Tryz.prog Tryz.f152 = some code152 := by kernel_rfl
theorem okf152 : okFn Tryz.prog 152 = true := by kernel_rfl
-- 153: corebank/account.index$1
def code153 : FCode := ⟨2, [.tmp 3],
 (.seq (.s [.box 2 (.t 0), .as 3 (.c (.b false))] [])
 (.seq (.q [(3, (.op (.bin .eql) [(.op (.ld 1 false) [(.op (.fa 0 1) [(.sl 2)])]), (.op (.ld 1 false) [(.sl 1)])]))])
 (.ret [3])))⟩
theorem comp153 : compile Tryz.prog Tryz.f153 = some code153 := by kernel_rfl
theorem okf153 : okFn Tryz.prog 153 = true := by kernel_rfl
-- 172: corebank/corebankref14.Check
def body172_1 : C :=
 (.seq (.seq (.q [(11, (.op (.bin .lss) [(.sl 3), (.op .len [(.sl 0)])]))])
 (.cond (.sl 11) .skip (.exit 0 [0])))
 (.seq (.blk 1 (.seq (.q [(43, (.ite (.ite (.ite (.op (.bin .lss) [(.op (.ld 1 false) [(.op (.fa 0 1) [(.op (.ix 2) [(.sl 0), (.sl 3)])])]), (.k (.i .i64 0))]) (.k (.b true)) (.op (.bin .gtr) [(.op (.ld 1 false) [(.op (.fa 0 1) [(.op (.ix 2) [(.sl 0), (.sl 3)])])]), (.k (.i .i64 1000000000000))])) (.k (.b true)) (.op (.bin .lss) [(.op (.ld 1 false) [(.op (.fa 1 1) [(.op (.ix 2) [(.sl 0), (.sl 3)])])]), (.k (.i .i64 0))])) (.k (.b true)) (.op (.bin .gtr) [(.op (.ld 1 false) [(.op (.fa 1 1) [(.op (.ix 2) [(.sl 0), (.sl 3)])])]), (.k (.i .i64 1000000))])))])
 (.cond (.sl 43) (.seq (.q [(2, (.k (.i .i64 1)))])
 (.ret [2])) .skip)))
 (.q [(3, (.op (.bin .add) [(.sl 3), (.k (.i .i64 1))]))])))
def body172_2 : C :=
 (.seq (.seq (.q [(47, (.op (.bin .lss) [(.sl 4), (.op .len [(.sl 0)])]))])
 (.cond (.sl 47) .skip (.exit 2 [0])))
 (.seq (.blk 3 (.seq (.q [(61, (.op (.bin .leq) [(.op (.ld 1 false) [(.op (.fa 0 1) [(.op (.ix 2) [(.sl 0), (.sl 4)])])]), (.op (.ld 1 false) [(.op (.fa 0 1) [(.op (.ix 2) [(.sl 0), (.op (.bin .sub) [(.sl 4), (.k (.i .i64 1))])])])])]))])
 (.cond (.sl 61) (.seq (.q [(2, (.k (.i .i64 10)))])
 (.ret [2])) .skip)))
 (.q [(4, (.op (.bin .add) [(.sl 4), (.k (.i .i64 1))]))])))
def code172 : FCode := ⟨1, [.tmp 2],
 (.seq (.q [(2, (.k (.i .i64 0)))])
 (.seq (.seq (.q [(7, (.op (.bin .gtr) [(.op .len [(.sl 0)]), (.k (.i .i64 6))]))])
 (.cond (.sl 7) (.seq (.q [(2, (.k (.i .i64 5)))])
 (.ret [2])) .skip))
 (.seq (.seq (.q [(3, (.k (.i .i64 0)))])
 (.blk 0 (.loop [0, 3] body172_1)))
 (.seq (.seq (.q [(4, (.k (.i .i64 1)))])
 (.blk 2 (.loop [0, 4] body172_2)))
 (.seq (.seq (.q [(71, (.ite (.op (.bin .gtr) [(.op .len [(.sl 0)]), (.k (.i .i64 0))]) (.op (.bin .neq) [(.op (.ld 1 false) [(.op (.fa 0 1) [(.op (.ix 2) [(.sl 0), (.k (.i .i64 0))])])]), (.k (.i .i64 0))]) (.k (.b false))))])
 (.cond (.sl 71) (.seq (.q [(2, (.k (.i .i64 1)))])
 (.ret [2])) .skip))
 (.seq (.q [(2, (.k (.i .i64 0)))])
 (.ret [2])))))))⟩
theorem comp172 : compile Tryz.prog Tryz.f172 = some code172 := by kernel_rfl
theorem okf172 : okFn Tryz.prog 172 = true := by kernel_rfl
-- 173: corebank/corebankref11.Check
def code173 : FCode := ⟨3, [.tmp 6],
 (.seq (.s [.box 3 (.t 0), .as 6 (.c (.i .i64 0))] [])
 (.seq (.q [(7, (.op (.ext 0) [(.op (.call false 205) [(.op (.ld 4 true) [(.sl 3)]), (.sl 1)])])), (8, (.op (.ext 1) [(.op (.call false 205) [(.op (.ld 4 true) [(.sl 3)]), (.sl 1)])]))])
 (.seq (.seq (.q [(16, (.op (.bin .neq) [(.sl 8), (.k (.i .i64 0))]))])
 (.cond (.sl 16) (.seq (.q [(6, (.sl 8))])
 (.ret [6])) .skip))
 (.seq (.seq (.q [(20, (.op (.bin .neq) [(.sl 7), (.sl 2)]))])
 (.cond (.sl 20) (.seq (.q [(6, (.k (.i .i64 3)))])
 (.ret [6])) .skip))
 (.seq (.q [(6, (.k (.i .i64 0)))])
 (.ret [6]))))))⟩
theorem comp173 : compile Tryz.prog Tryz.f173 = some code173 := by kernel_rfl
theorem okf173 : okFn Tryz.prog 173 = true := by kernel_rfl
-- 174: corebank/corebankref15.Vars
def code174 : FCode := ⟨0, [.tmp 0],
 (.seq (.s [.as 0 (.c (.ow 272 []))] [])
 (.seq (.s [.bld 1 [(.s []), (.i .i64 0)] [(0, 1), (1, 1)] [(.c (.s [98, 97, 108, 97, 110, 99, 101])), (.c (.i .i64 2))], .bld 2 [(.s []), (.i .i64 0)] [(0, 1), (1, 1)] [(.c (.s [108, 111, 119, 101, 115, 116])), (.c (.i .i64 2))], .bld 3 [(.s []), (.i .i64 0)] [(0, 1), (1, 1)] [(.c (.s [118, 111, 108, 117, 109, 101])), (.c (.i .i64 2))], .bld 4 [(.s []), (.i .i64 0)] [(0, 1), (1, 1)] [(.c (.s [97, 109, 111, 117, 110, 116])), (.c (.i .i64 2))], .bld 5 [(.s []), (.i .i64 0)] [(0, 1), (1, 1)] [(.c (.s [99, 111, 117, 110, 116])), (.c (.i .i64 1))], .bld 6 [(.s []), (.i .i64 0)] [(0, 1), (1, 1)] [(.c (.s [97, 103, 101])), (.c (.i .i64 1))], .bld 7 [(.s []), (.i .i64 0)] [(0, 1), (1, 1)] [(.c (.s [100, 97, 121])), (.c (.i .i64 4))], .bsl 8 272 2 [(.t 1), (.t 2), (.t 3), (.t 4), (.t 5), (.t 6), (.t 7)], .as 0 (.t 8)] [1, 2, 3, 4, 5, 6, 7, 8])
 (.ret [0])))⟩
theorem comp174 : compile Tryz.prog Tryz.f174 = some code174 := by kernel_rfl
theorem okf174 : okFn Tryz.prog 174 = true := by kernel_rfl
-- 175: corebank/corebankref19.Check
def body175_1 : C :=
 (.seq (.seq (.q [(72, (.op (.bin .lss) [(.sl 3), (.op .len [(.op (.ld 1 false) [(.op (.fa 8 1) [(.sl 1)])])])]))])
 (.cond (.sl 72) .skip (.exit 0 [1])))
 (.seq (.blk 1 (.seq (.q [(4, (.op (.call false 206) [(.op (.ld 3 true) [(.op (.ix 3) [(.op (.ld 1 false) [(.op (.fa 8 1) [(.sl 1)])]), (.sl 3)])])]))])
 (.seq (.q [(82, (.op (.bin .neq) [(.sl 4), (.k (.i .i64 0))]))])
 (.cond (.sl 82) (.seq (.q [(2, (.sl 4))])
 (.ret [2])) .skip))))
 (.q [(3, (.op (.bin .add) [(.sl 3), (.k (.i .i64 1))]))])))
def body175_2 : C :=
 (.seq (.seq (.q [(90, (.op (.bin .lss) [(.sl 6), (.op .len [(.sl 5)])]))])
 (.cond (.sl 90) .skip (.exit 2 [])))
 (.seq (.blk 3 (.seq (.q [(98, (.op (.bin .neq) [(.op (.ld 1 false) [(.op (.fa 1 1) [(.op (.ix 2) [(.sl 5), (.sl 6)])])]), (.k (.i .i64 0))]))])
 (.cond (.sl 98) (.seq (.q [(2, (.k (.i .i64 15)))])
 (.ret [2])) .skip)))
 (.q [(6, (.op (.bin .add) [(.sl 6), (.k (.i .i64 1))]))])))
def code175 : FCode := ⟨1, [.tmp 2],
 (.seq (.s [.box 1 (.t 0), .as 2 (.c (.i .i64 0))] [])
 (.seq (.seq (.q [(10, (.op (.un .not) [(.op (.call false 139) [(.op (.ld 1 false) [(.op (.fa 6 1) [(.sl 1)])])])]))])
 (.cond (.sl 10) (.seq (.q [(2, (.k (.i .i64 4)))])
 (.ret [2])) .skip))
 (.seq (.seq (.q [(57, (.ite (.ite (.ite (.ite (.ite (.ite (.ite (.op (.un .not) [(.op (.call false 182) [(.op (.ld 1 false) [(.op (.fa 7 1) [(.sl 1)])]), (.k (.i .i64 64)), (.k (.i .u8 32))])]) (.k (.b true)) (.op (.un .not) [(.op (.call false 81) [(.op (.ld 1 false) [(.op (.fa 1 1) [(.sl 1)])])])])) (.k (.b true)) (.op (.un .not) [(.op (.call false 81) [(.op (.ld 1 false) [(.op (.fa 2 1) [(.sl 1)])])])])) (.k (.b true)) (.op (.bin .lss) [(.op (.ld 1 false) [(.op (.fa 3 1) [(.sl 1)])]), (.k (.i .i64 1))])) (.k (.b true)) (.op (.bin .gtr) [(.op (.ld 1 false) [(.op (.fa 3 1) [(.sl 1)])]), (.k (.i .i64 14))])) (.k (.b true)) (.op (.bin .lss) [(.op (.ld 1 false) [(.op (.fa 4 1) [(.sl 1)])]), (.k (.i .i64 0))])) (.k (.b true)) (.op (.bin .gtr) [(.op (.ld 1 false) [(.op (.fa 4 1) [(.sl 1)])]), (.k (.i .i64 3))])) (.k (.b true)) (.ite (.op (.bin .neq) [(.op (.ld 1 false) [(.op (.fa 5 1) [(.sl 1)])]), (.k (.i .i64 0))]) (.op (.un .not) [(.op (.call false 81) [(.op (.ld 1 false) [(.op (.fa 5 1) [(.sl 1)])])])]) (.k (.b false)))))])
 (.cond (.sl 57) (.seq (.q [(2, (.k (.i .i64 1)))])
 (.ret [2])) .skip))
 (.seq (.seq (.q [(67, (.ite (.op (.bin .lss) [(.op .len [(.op (.ld 1 false) [(.op (.fa 8 1) [(.sl 1)])])]), (.k (.i .i64 2))]) (.k (.b true)) (.op (.bin .gtr) [(.op .len [(.op (.ld 1 false) [(.op (.fa 8 1) [(.sl 1)])])]), (.k (.i .i64 12))])))])
 (.cond (.sl 67) (.seq (.q [(2, (.k (.i .i64 5)))])
 (.ret [2])) .skip))
 (.seq (.seq (.q [(3, (.k (.i .i64 0)))])
 (.blk 0 (.loop [1, 3] body175_1)))
 (.seq (.s [.fa 84 8 1 (.t 1), .q 85 (.ld 1 false) [(.t 84)], .call (some 86) 207 [(.t 85)], .as 5 (.t 86)] [84, 85, 86])
 (.seq (.seq (.q [(6, (.k (.i .i64 0)))])
 (.blk 2 (.loop [5, 6] body175_2)))
 (.seq (.q [(2, (.k (.i .i64 0)))])
 (.ret [2])))))))))⟩
theorem comp175 : compile Tryz.prog Tryz.f175 = some code175 := by kernel_rfl
theorem okf175 : okFn Tryz.prog 175 = true := by kernel_rfl
-- 176: corebank/corebankref19.SameLegs
def body176_1 : C :=
 (.seq (.seq (.q [(14, (.op (.bin .lss) [(.sl 5), (.op .len [(.sl 0)])]))])
 (.cond (.sl 14) .skip (.exit 0 [])))
 (.seq (.blk 1 (.seq (.q [(25, (.op (.eqa true [1, 1, 2]) [(.op (.ld 3 true) [(.op (.ix 3) [(.sl 0), (.sl 5)])]), (.op (.ld 3 true) [(.op (.ix 3) [(.sl 1), (.sl 5)])])]))])
 (.cond (.sl 25) (.seq (.q [(4, (.k (.b false)))])
 (.ret [4])) .skip)))
 (.q [(5, (.op (.bin .add) [(.sl 5), (.k (.i .i64 1))]))])))
def code176 : FCode := ⟨2, [.tmp 4],
 (.seq (.q [(4, (.k (.b false)))])
 (.seq (.seq (.q [(10, (.op (.bin .neq) [(.op .len [(.sl 0)]), (.op .len [(.sl 1)])]))])
 (.cond (.sl 10) (.seq (.q [(4, (.k (.b false)))])
 (.ret [4])) .skip))
 (.seq (.seq (.q [(5, (.k (.i .i64 0)))])
 (.blk 0 (.loop [0, 1, 5] body176_1)))
 (.seq (.q [(4, (.k (.b true)))])
 (.ret [4])))))⟩
theorem comp176 : compile Tryz.prog Tryz.f176 = some code176 := by kernel_rfl
theorem okf176 : okFn Tryz.prog 176 = true := by kernel_rfl
-- 177: corebank/corebankref08.Chain
def code177 : FCode := ⟨2, [.tmp 4],
 (.seq (.q [(4, (.k (.i .u64 0)))])
 (.seq (.q [(4, (.op (.call false 208) [(.op (.call false 209) [(.op (.call false 210) [(.sl 0)])]), (.sl 1)]))])
 (.ret [4])))⟩
theorem comp177 : compile Tryz.prog Tryz.f177 = some code177 := by kernel_rfl
theorem okf177 : okFn Tryz.prog 177 = true := by kernel_rfl
-- 178: corebank/corebankref19.Encode
def body178_1 : C :=
 (.seq (.seq (.q [(10, (.op (.bin .lss) [(.sl 4), (.op .len [(.op (.ld 1 false) [(.op (.fa 8 1) [(.sl 1)])])])]))])
 (.cond (.sl 10) .skip (.exit 0 [1, 3])))
 (.seq (.blk 1 (.seq (.s [.fa 13 8 1 (.t 1), .q 14 (.ld 1 false) [(.t 13)], .mv 15 (.t 4), .ix 16 3 (.t 14) (.t 15), .q 17 (.ld 3 true) [(.t 16)], .alo 5 [(.i .i64 0), (.i .i64 0), (.s [])], .sto 3 (.t 5) (.t 17)] [13, 14, 15, 16, 17])
 (.d [.mv 18 (.t 3), .fa 19 0 1 (.t 5), .q 20 (.ld 1 false) [(.t 19)], .call (some 21) 212 [(.t 20)], .fa 22 1 1 (.t 5), .q 23 (.ld 1 false) [(.t 22)], .call (some 24) 212 [(.t 23)], .fa 25 2 1 (.t 5), .q 26 (.ld 1 false) [(.t 25)], .bsl 27 9 1 [(.t 21), (.t 24), (.t 26)], .call (some 28) 211 [(.t 27)], .bsl 29 9 1 [(.t 28)], .app 30 9 1 16 (.t 18) (.t 29), .as 3 (.t 30)] [[], [], [1], [1, 2], [], [4], [1, 2, 3, 4, 5], [], [7], [1, 2, 3, 4, 5, 6, 7, 8], [1, 2, 3, 4, 5, 6, 7, 8, 9], [1, 2, 3, 4, 5, 6, 7, 8, 9, 10], [0, 1, 2, 3, 4, 5, 6, 7, 8, 9, 10, 11], [0, 1, 2, 3, 4, 5, 6, 7, 8, 9, 10, 11, 12]] [18, 19, 20, 21, 22, 23, 24, 25, 26, 27, 28, 29, 30])))
 (.q [(4, (.op (.bin .add) [(.sl 4), (.k (.i .i64 1))]))])))
def code178 : FCode := ⟨1, [.tmp 2],
 (.seq (.s [.box 1 (.t 0), .as 2 (.c (.s []))] [])
 (.seq (.s [.as 3 (.c (.ow 9 []))] [])
 (.seq (.seq (.q [(4, (.k (.i .i64 0)))])
 (.blk 0 (.loop [1, 3, 4] body178_1)))
 (.seq (.q [(2, (.op (.call false 211) [(.op (.bsl 1) [(.op (.call false 212) [(.op (.ld 1 false) [(.op (.fa 0 1) [(.sl 1)])])]), (.op (.call false 212) [(.op (.ld 1 false) [(.op (.fa 1 1) [(.sl 1)])])]), (.op (.call false 212) [(.op (.ld 1 false) [(.op (.fa 2 1) [(.sl 1)])])]), (.op (.call false 212) [(.op (.ld 1 false) [(.op (.fa 3 1) [(.sl 1)])])]), (.op (.call false 212) [(.op (.ld 1 false) [(.op (.fa 4 1) [(.sl 1)])])]), (.op (.call false 212) [(.op (.ld 1 false) [(.op (.fa 5 1) [(.sl 1)])])]), (.op (.ld 1 false) [(.op (.fa 6 1) [(.sl 1)])]), (.op (.ld 1 false) [(.op (.fa 7 1) [(.sl 1)])]), (.op (.call false 211) [(.sl 3)])])]))])
 (.ret [2])))))⟩
theorem comp178 : compile Tryz.prog Tryz.f178 = some code178 := by kernel_rfl
theorem okf178 : okFn Tryz.prog 178 = true := by kernel_rfl
-- 179: corebank/corebankref26.parent
def body179_1 : C :=
 (.seq (.seq (.q [(9, (.op (.bin .lss) [(.sl 5), (.op .len [(.sl 0)])]))])
 (.cond (.sl 9) .skip (.exit 0 [])))
 (.seq (.blk 1 (.seq (.q [(18, (.op (.bin .eql) [(.op (.ld 1 false) [(.op (.fa 1 1) [(.op (.ix 4) [(.sl 0), (.sl 5)])])]), (.sl 1)]))])
 (.cond (.sl 18) (.seq (.q [(4, (.k (.b true)))])
 (.ret [4])) .skip)))
 (.q [(5, (.op (.bin .add) [(.sl 5), (.k (.i .i64 1))]))])))
def code179 : FCode := ⟨2, [.tmp 4],
 (.seq (.q [(4, (.k (.b false)))])
 (.seq (.seq (.q [(5, (.k (.i .i64 0)))])
 (.blk 0 (.loop [0, 1, 5] body179_1)))
 (.seq (.q [(4, (.k (.b false)))])
 (.ret [4]))))⟩
theorem comp179 : compile Tryz.prog Tryz.f179 = some code179 := by kernel_rfl
theorem okf179 : okFn Tryz.prog 179 = true := by kernel_rfl
-- 180: corebank/corebankref24.Find
def body180_1 : C :=
 (.seq (.seq (.q [(11, (.op (.bin .lss) [(.sl 6), (.op .len [(.op (.ld 1 false) [(.op (.fa 18 1) [(.sl 2)])])])]))])
 (.cond (.sl 11) .skip (.exit 0 [4])))
 (.seq (.blk 1 (.seq (.q [(21, (.op (.bin .eql) [(.op (.ld 1 false) [(.op (.fa 0 1) [(.op (.ix 7) [(.op (.ld 1 false) [(.op (.fa 18 1) [(.sl 2)])]), (.sl 6)])])]), (.sl 1)]))])
 (.cond (.sl 21) (.seq (.s [.fa 22 18 1 (.t 2), .q 23 (.ld 1 false) [(.t 22)], .mv 24 (.t 6), .ix 25 7 (.t 23) (.t 24), .q 26 (.ld 7 true) [(.t 25)], .sto 7 (.t 4) (.t 26), .as 5 (.c (.b true))] [22, 23, 24, 25, 26])
 (.ret [4, 5])) .skip)))
 (.q [(6, (.op (.bin .add) [(.sl 6), (.k (.i .i64 1))]))])))
def code180 : FCode := ⟨2, [.cell 4 7 true, .tmp 5],
 (.seq (.s [.box 2 (.t 0), .alo 4 [(.i .i64 0), (.i .i64 0), (.i .i64 0), (.i .i64 0), (.s []), (.s []), (.s [])], .as 5 (.c (.b false))] [])
 (.seq (.seq (.q [(6, (.k (.i .i64 0)))])
 (.blk 0 (.loop [1, 2, 4, 6] body180_1)))
 (.seq (.s [.bld 27 [(.i .i64 0), (.i .i64 0), (.i .i64 0), (.i .i64 0), (.s []), (.s []), (.s [])] [] [], .sto 7 (.t 4) (.t 27), .as 5 (.c (.b false))] [27])
 (.ret [4, 5]))))⟩
theorem comp180 : compile Tryz.prog Tryz.f180 = some code180 := by kernel_rfl
theorem okf180 : okFn Tryz.prog 180 = true := by kernel_rfl
-- 181: corebank/corebankref24.Active
def code181 : FCode := ⟨3, [.tmp 6],
 (.seq (.s [.box 3 (.t 0), .as 6 (.c (.b false))] [])
 (.seq (.s [.q 10 (.ld 22 true) [(.t 3)], .mv 11 (.t 1), .call (some 12) 180 [(.t 10), (.t 11)], .mv 9 (.t 12), .ext 13 0 9, .ext 14 1 9, .alo 7 [(.i .i64 0), (.i .i64 0), (.i .i64 0), (.i .i64 0), (.s []), (.s []), (.s [])], .sto 7 (.t 7) (.t 13), .as 8 (.t 14)] [10, 11, 12, 9, 13, 14])
 (.seq (.q [(6, (.ite (.ite (.sl 8) (.op (.bin .leq) [(.op (.ld 1 false) [(.op (.fa 1 1) [(.sl 7)])]), (.sl 2)]) (.k (.b false))) (.ite (.op (.bin .eql) [(.op (.ld 1 false) [(.op (.fa 2 1) [(.sl 7)])]), (.k (.i .i64 0))]) (.k (.b true)) (.op (.bin .gtr) [(.op (.ld 1 false) [(.op (.fa 2 1) [(.sl 7)])]), (.sl 2)])) (.k (.b false))))])
 (.ret [6]))))⟩
theorem comp181 : compile Tryz.prog Tryz.f181 = some code181 := by kernel_rfl
theorem okf181 : okFn Tryz.prog 181 = true := by kernel_rfl
-- 182: corebank/corebankref07.Printed
def body182_1 : C :=
 (.seq (.seq (.q [(15, (.op (.bin .lss) [(.sl 7), (.op .slen [(.sl 0)])]))])
 (.cond (.sl 15) .skip (.exit 0 [])))
 (.seq (.blk 1 (.seq (.q [(28, (.ite (.op (.bin .lss) [(.op .idx [(.sl 0), (.sl 7)]), (.sl 2)]) (.k (.b true)) (.op (.bin .gtr) [(.op .idx [(.sl 0), (.sl 7)]), (.k (.i .u8 126))])))])
 (.cond (.sl 28) (.seq (.q [(6, (.k (.b false)))])
 (.ret [6])) .skip)))
 (.q [(7, (.op (.bin .add) [(.sl 7), (.k (.i .i64 1))]))])))
def code182 : FCode := ⟨3, [.tmp 6],
 (.seq (.q [(6, (.k (.b false)))])
 (.seq (.seq (.q [(11, (.op (.bin .gtr) [(.op .slen [(.sl 0)]), (.sl 1)]))])
 (.cond (.sl 11) (.seq (.q [(6, (.k (.b false)))])
 (.ret [6])) .skip))
 (.seq (.seq (.q [(7, (.k (.i .i64 0)))])
 (.blk 0 (.loop [0, 2, 7] body182_1)))
 (.seq (.q [(6, (.k (.b true)))])
 (.ret [6])))))⟩
theorem comp182 : compile Tryz.prog Tryz.f182 = some code182 := by kernel_rfl
theorem okf182 : okFn Tryz.prog 182 = true := by kernel_rfl
-- 183: slices.Index[[]int,int]
def body183_1 : C :=
 (.seq (.q [(9, (.op (.bin .lss) [(.sl 8), (.sl 7)]))])
 (.seq (.cond (.sl 9) .skip (.exit 0 []))
 (.seq (.blk 1 (.seq (.q [(5, (.sl 8))])
 (.seq (.q [(16, (.op (.bin .eql) [(.sl 1), (.op (.ld 1 false) [(.op (.ix 1) [(.sl 0), (.sl 5)])])]))])
 (.cond (.sl 16) (.seq (.q [(4, (.sl 5))])
 (.ret [4])) .skip))))
 (.q [(8, (.op (.bin .add) [(.sl 8), (.k (.i .i64 1))]))]))))
def code183 : FCode := ⟨2, [.tmp 4],
 (.seq (.q [(4, (.k (.i .i64 0)))])
 (.seq (.seq (.q [(7, (.op .len [(.sl 0)])), (8, (.k (.i .i64 0)))])
 (.blk 0 (.loop [0, 1, 7, 8] body183_1)))
 (.seq (.q [(4, (.k (.i .i64 (-1))))])
 (.ret [4]))))⟩
theorem comp183 : compile Tryz.prog Tryz.f183 = some code183 := by kernel_rfl
theorem okf183 : okFn Tryz.prog 183 = true := by kernel_rfl
-- 205: corebank/corebankref11.Of
def code205 : FCode := ⟨2, [.tmp 4, .tmp 5],
 (.seq (.s [.box 2 (.t 0), .as 4 (.c (.i .i64 0)), .as 5 (.c (.i .i64 0))] [])
 (.seq (.q [(6, (.op (.call false 226) [(.op (.ld 4 true) [(.sl 2)])]))])
 (.seq (.seq (.q [(10, (.op (.bin .neq) [(.sl 6), (.k (.i .i64 0))]))])
 (.cond (.sl 10) (.seq (.q [(4, (.k (.i .i64 0))), (5, (.sl 6))])
 (.ret [4, 5])) .skip))
 (.seq (.q [(4, (.op (.ext 0) [(.op (.call false 227) [(.op (.ld 4 true) [(.sl 2)]), (.sl 1)])])), (5, (.op (.ext 1) [(.op (.call false 227) [(.op (.ld 4 true) [(.sl 2)]), (.sl 1)])]))])
 (.ret [4, 5])))))⟩
theorem comp205 : compile Tryz.prog Tryz.f205 = some code205 := by kernel_rfl
theorem okf205 : okFn Tryz.prog 205 = true := by kernel_rfl
-- 206: corebank/corebankref19.leg
def code206 : FCode := ⟨1, [.tmp 2],
 (.seq (.s [.box 1 (.t 0), .as 2 (.c (.i .i64 0))] [])
 (.seq (.seq (.q [(20, (.ite (.ite (.ite (.op (.bin .lss) [(.op (.ld 1 false) [(.op (.fa 0 1) [(.sl 1)])]), (.k (.i .i64 1))]) (.k (.b true)) (.op (.bin .eql) [(.op (.ld 1 false) [(.op (.fa 1 1) [(.sl 1)])]), (.k (.i .i64 0))])) (.k (.b true)) (.op (.bin .lss) [(.op (.ld 1 false) [(.op (.fa 1 1) [(.sl 1)])]), (.k (.i .i64 (-1000000000000)))])) (.k (.b true)) (.op (.bin .gtr) [(.op (.ld 1 false) [(.op (.fa 1 1) [(.sl 1)])]), (.k (.i .i64 1000000000000))])))])
 (.cond (.sl 20) (.seq (.q [(2, (.k (.i .i64 1)))])
 (.ret [2])) .skip))
 (.seq (.seq (.q [(24, (.op (.un .not) [(.op (.call false 228) [(.op (.ld 1 false) [(.op (.fa 2 1) [(.sl 1)])])])]))])
 (.cond (.sl 24) (.seq (.q [(2, (.k (.i .i64 14)))])
 (.ret [2])) .skip))
 (.seq (.q [(2, (.k (.i .i64 0)))])
 (.ret [2])))))⟩
theorem comp206 : compile Tryz.prog Tryz.f206 = some code206 := by kernel_rfl
theorem okf206 : okFn Tryz.prog 206 = true := by kernel_rfl
-- 207: corebank/corebankref19.Sums
def body207_1 : C :=
 (.seq (.seq (.q [(30, (.ite (.op (.bin .lss) [(.sl 6), (.op .len [(.sl 3)])]) (.op (.bin .lss) [(.op (.ld 1 false) [(.op (.fa 0 1) [(.op (.ix 2) [(.sl 3), (.sl 6)])])]), (.op (.ld 1 false) [(.op (.fa 2 1) [(.op (.ix 3) [(.sl 0), (.sl 4)])])])]) (.k (.b false))))])
 (.cond (.sl 30) .skip (.exit 2 [0, 3, 4, 5, 6])))
 (.blk 3 (.q [(6, (.op (.bin .add) [(.sl 6), (.k (.i .i64 1))]))])))
def body207_2 : C :=
 (.seq (.seq (.q [(11, (.op (.bin .lss) [(.sl 4), (.op .len [(.sl 0)])]))])
 (.cond (.sl 11) .skip (.exit 0 [3])))
 (.seq (.blk 1 (.seq (.s [.as 5 (.c (.ow 122 []))] [])
 (.seq (.q [(6, (.k (.i .i64 0)))])
 (.seq (.blk 2 (.loop [0, 3, 4, 5, 6] body207_1))
 (.seq (.s [.mv 33 (.t 5), .mv 34 (.t 3), .mv 35 (.t 6), .slc 36 2 false true [(.t 34), (.t 35)], .app 37 122 2 24 (.t 33) (.t 36), .as 5 (.t 37)] [33, 34, 35, 36, 37])
 (.seq (.q [(7, (.op (.ld 1 false) [(.op (.fa 1 1) [(.op (.ix 3) [(.sl 0), (.sl 4)])])]))])
 (.seq (.seq (.q [(59, (.ite (.op (.bin .lss) [(.sl 6), (.op .len [(.sl 3)])]) (.op (.bin .eql) [(.op (.ld 1 false) [(.op (.fa 0 1) [(.op (.ix 2) [(.sl 3), (.sl 6)])])]), (.op (.ld 1 false) [(.op (.fa 2 1) [(.op (.ix 3) [(.sl 0), (.sl 4)])])])]) (.k (.b false))))])
 (.cond (.sl 59) (.seq (.q [(7, (.op (.bin .add) [(.sl 7), (.op (.ld 1 false) [(.op (.fa 1 1) [(.op (.ix 2) [(.sl 3), (.sl 6)])])])]))])
 (.q [(6, (.op (.bin .add) [(.sl 6), (.k (.i .i64 1))]))])) .skip))
 (.seq (.s [.mv 69 (.t 5), .mv 70 (.t 0), .mv 71 (.t 4), .ix 72 3 (.t 70) (.t 71), .fa 73 2 1 (.t 72), .q 74 (.ld 1 false) [(.t 73)], .mv 75 (.t 7), .bld 76 [(.s []), (.i .i64 0)] [(0, 1), (1, 1)] [(.t 74), (.t 75)], .bsl 77 122 2 [(.t 76)], .app 78 122 2 24 (.t 69) (.t 77), .as 5 (.t 78)] [69, 70, 71, 72, 73, 74, 75, 76, 77, 78])
 (.seq (.s [.mv 79 (.t 5), .mv 80 (.t 3), .mv 81 (.t 6), .slc 82 2 true false [(.t 80), (.t 81)], .app 83 122 2 24 (.t 79) (.t 82), .as 5 (.t 83)] [79, 80, 81, 82, 83])
 (.s [.mv 84 (.t 5), .as 3 (.t 84)] [84]))))))))))
 (.q [(4, (.op (.bin .add) [(.sl 4), (.k (.i .i64 1))]))])))
def code207 : FCode := ⟨1, [.tmp 2],
 (.seq (.s [.as 2 (.c (.ow 122 []))] [])
 (.seq (.s [.as 3 (.c (.ow 122 []))] [])
 (.seq (.seq (.q [(4, (.k (.i .i64 0)))])
 (.blk 0 (.loop [0, 3, 4] body207_2)))
 (.seq (.s [.mv 85 (.t 3), .as 2 (.t 85)] [85])
 (.ret [2])))))⟩
theorem comp207 : compile Tryz.prog Tryz.f207 = some code207 := by kernel_rfl
theorem okf207 : okFn Tryz.prog 207 = true := by kernel_rfl
-- 208: corebank/corebankref08.Extend
def body208_1 : C :=
 (.seq (.seq (.q [(9, (.op (.bin .lss) [(.sl 5), (.op .slen [(.sl 1)])]))])
 (.cond (.sl 9) .skip (.exit 0 [0])))
 (.seq (.blk 1 (.q [(0, (.op (.bin .mul) [(.op (.bin .xor) [(.sl 0), (.op (.cnv .u64) [(.op .idx [(.sl 1), (.sl 5)])])]), (.k (.i .u64 1099511628211))]))]))
 (.q [(5, (.op (.bin .add) [(.sl 5), (.k (.i .i64 1))]))])))
def code208 : FCode := ⟨2, [.tmp 4],
 (.seq (.q [(4, (.k (.i .u64 0)))])
 (.seq (.seq (.q [(5, (.k (.i .i64 0)))])
 (.blk 0 (.loop [0, 1, 5] body208_1)))
 (.seq (.q [(4, (.sl 0))])
 (.ret [4]))))⟩
theorem comp208 : compile Tryz.prog Tryz.f208 = some code208 := by kernel_rfl
theorem okf208 : okFn Tryz.prog 208 = true := by kernel_rfl
-- 209: corebank/corebankref08.Hash
def code209 : FCode := ⟨1, [.tmp 2],
 (.seq (.q [(2, (.k (.i .u64 0)))])
 (.seq (.q [(2, (.op (.call false 208) [(.k (.i .u64 14695981039346656037)), (.sl 0)]))])
 (.ret [2])))⟩
theorem comp209 : compile Tryz.prog Tryz.f209 = some code209 := by kernel_rfl
theorem okf209 : okFn Tryz.prog 209 = true := by kernel_rfl
-- 210: corebank/corebankref08.eight
def body210_1 : C :=
 (.seq (.seq (.q [(7, (.op (.bin .lss) [(.sl 4), (.k (.i .i64 8))]))])
 (.cond (.sl 7) .skip (.exit 0 [3])))
 (.seq (.blk 1 (.seq (.s [.mv 10 (.t 3), .mv 11 (.t 0), .q 12 (.bin .rem) [(.t 11), (.c (.i .u64 256))], .q 13 (.cnv .u8) [(.t 12)], .bsl 14 5 1 [(.t 13)], .app 15 5 1 1 (.t 10) (.t 14), .as 3 (.t 15)] [10, 11, 12, 13, 14, 15])
 (.q [(0, (.op (.bin .quo) [(.sl 0), (.k (.i .u64 256))]))])))
 (.q [(4, (.op (.bin .add) [(.sl 4), (.k (.i .i64 1))]))])))
def code210 : FCode := ⟨1, [.tmp 2],
 (.seq (.q [(2, (.k (.s [])))])
 (.seq (.s [.bsl 5 5 1 [], .as 3 (.t 5)] [5])
 (.seq (.seq (.q [(4, (.k (.i .i64 0)))])
 (.blk 0 (.loop [0, 3, 4] body210_1)))
 (.seq (.q [(2, (.op .b2s [(.sl 3)]))])
 (.ret [2])))))⟩
theorem comp210 : compile Tryz.prog Tryz.f210 = some code210 := by kernel_rfl
theorem okf210 : okFn Tryz.prog 210 = true := by kernel_rfl
-- 211: corebank/corebankref07.Pack
def body211_1 : C :=
 (.seq (.seq (.q [(8, (.op (.bin .lss) [(.sl 4), (.op .len [(.sl 0)])]))])
 (.cond (.sl 8) .skip (.exit 0 [3])))
 (.seq (.blk 1 (.q [(3, (.op (.bin .add) [(.op (.bin .add) [(.op (.bin .add) [(.sl 3), (.op (.call true 212) [(.op .slen [(.op (.ld 1 false) [(.op (.ix 1) [(.sl 0), (.sl 4)])])])])]), (.k (.s [58]))]), (.op (.ld 1 false) [(.op (.ix 1) [(.sl 0), (.sl 4)])])]))]))
 (.q [(4, (.op (.bin .add) [(.sl 4), (.k (.i .i64 1))]))])))
def code211 : FCode := ⟨1, [.tmp 2],
 (.seq (.q [(2, (.k (.s [])))])
 (.seq (.q [(3, (.k (.s [])))])
 (.seq (.seq (.q [(4, (.k (.i .i64 0)))])
 (.blk 0 (.loop [0, 3, 4] body211_1)))
 (.seq (.q [(2, (.sl 3))])
 (.ret [2])))))⟩
theorem comp211 : compile Tryz.prog Tryz.f211 = some code211 := by kernel_rfl
theorem okf211 : okFn Tryz.prog 211 = true := by kernel_rfl
-- 212: corebank/corebankref07.Int
def code212 : FCode := ⟨1, [.tmp 2],
 (.seq (.q [(2, (.k (.s [])))])
 (.seq (.seq (.q [(4, (.op (.bin .geq) [(.sl 0), (.k (.i .i64 0))]))])
 (.cond (.sl 4) (.seq (.q [(2, (.op (.call false 229) [(.op (.cnv .u64) [(.sl 0)])]))])
 (.ret [2])) .skip))
 (.seq (.q [(2, (.op (.bin .add) [(.k (.s [45])), (.op (.call false 229) [(.op (.bin .add) [(.op (.un .xor) [(.op (.cnv .u64) [(.sl 0)])]), (.k (.i .u64 1))])])]))])
 (.ret [2]))))⟩
theorem comp212 : compile Tryz.prog Tryz.f212 = some code212 := by kernel_rfl
theorem okf212 : okFn Tryz.prog 212 = true := by kernel_rfl
-- 226: corebank/corebankref10.Validate
def body226_1 : C :=
 (.seq (.seq (.q [(20, (.op (.bin .lss) [(.sl 4), (.op .len [(.sl 3)])]))])
 (.cond (.sl 20) .skip (.exit 0 [])))
 (.seq (.blk 1 (.seq (.q [(28, (.op (.un .not) [(.op (.call false 248) [(.op (.ld 1 false) [(.op (.ix 1) [(.sl 3), (.sl 4)])])])]))])
 (.cond (.sl 28) (.seq (.q [(2, (.k (.i .i64 4)))])
 (.ret [2])) .skip)))
 (.q [(4, (.op (.bin .add) [(.sl 4), (.k (.i .i64 1))]))])))
def code226 : FCode := ⟨1, [.tmp 2],
 (.seq (.s [.box 1 (.t 0), .as 2 (.c (.i .i64 0))] [])
 (.seq (.seq (.q [(11, (.ite (.op (.call false 244) [(.op (.ld 4 true) [(.sl 1)]), (.k (.i .i64 64))]) (.k (.b true)) (.op (.bin .gtr) [(.op (.call false 245) [(.op (.ld 4 true) [(.sl 1)])]), (.k (.i .i64 8))])))])
 (.cond (.sl 11) (.seq (.q [(2, (.k (.i .i64 5)))])
 (.ret [2])) .skip))
 (.seq (.seq (.q [(14, (.op (.un .not) [(.op (.call false 246) [(.op (.ld 4 true) [(.sl 1)])])]))])
 (.cond (.sl 14) (.seq (.q [(2, (.k (.i .i64 1)))])
 (.ret [2])) .skip))
 (.seq (.s [.q 15 (.ld 4 true) [(.t 1)], .call (some 16) 247 [(.t 15)], .as 3 (.t 16)] [15, 16])
 (.seq (.seq (.q [(4, (.k (.i .i64 0)))])
 (.blk 0 (.loop [3, 4] body226_1)))
 (.seq (.q [(2, (.k (.i .i64 0)))])
 (.ret [2])))))))⟩
theorem comp226 : compile Tryz.prog Tryz.f226 = some code226 := by kernel_rfl
theorem okf226 : okFn Tryz.prog 226 = true := by kernel_rfl
-- 227: corebank/corebankref11.of
def body227_1 : C :=
 (.seq (.seq (.q [(26, (.op (.bin .lss) [(.sl 6), (.op .len [(.sl 1)])]))])
 (.cond (.sl 26) .skip (.exit 1 [])))
 (.seq (.blk 2 (.seq (.seq (.q [(44, (.ite (.op (.bin .eql) [(.op (.ld 1 false) [(.op (.fa 0 1) [(.op (.ix 2) [(.sl 1), (.sl 6)])])]), (.op (.ld 1 false) [(.op (.fa 2 1) [(.sl 2)])])]) (.op (.call true 249) [(.op (.ld 1 false) [(.op (.fa 1 1) [(.op (.ix 2) [(.sl 1), (.sl 6)])])])]) (.k (.b false))))])
 (.cond (.sl 44) (.seq (.q [(4, (.op (.ld 1 false) [(.op (.fa 1 1) [(.op (.ix 2) [(.sl 1), (.sl 6)])])])), (5, (.k (.i .i64 0)))])
 (.ret [4, 5])) .skip))
 (.seq (.q [(57, (.op (.bin .eql) [(.op (.ld 1 false) [(.op (.fa 0 1) [(.op (.ix 2) [(.sl 1), (.sl 6)])])]), (.op (.ld 1 false) [(.op (.fa 2 1) [(.sl 2)])])]))])
 (.cond (.sl 57) (.seq (.q [(4, (.k (.i .i64 0))), (5, (.k (.i .i64 3)))])
 (.ret [4, 5])) .skip))))
 (.q [(6, (.op (.bin .add) [(.sl 6), (.k (.i .i64 1))]))])))
def body227_2 : C :=
 (.seq (.seq (.q [(63, (.op (.bin .lss) [(.sl 8), (.op .len [(.op (.ld 1 false) [(.op (.fa 3 1) [(.sl 2)])])])]))])
 (.cond (.sl 63) .skip (.exit 3 [2, 7])))
 (.seq (.blk 4 (.seq (.q [(9, (.op (.ext 0) [(.op (.call false 227) [(.op (.ld 4 true) [(.op (.ix 4) [(.op (.ld 1 false) [(.op (.fa 3 1) [(.sl 2)])]), (.sl 8)])]), (.sl 1)])])), (10, (.op (.ext 1) [(.op (.call false 227) [(.op (.ld 4 true) [(.op (.ix 4) [(.op (.ld 1 false) [(.op (.fa 3 1) [(.sl 2)])]), (.sl 8)])]), (.sl 1)])]))])
 (.seq (.seq (.q [(77, (.op (.bin .neq) [(.sl 10), (.k (.i .i64 0))]))])
 (.cond (.sl 77) (.seq (.q [(4, (.k (.i .i64 0))), (5, (.sl 10))])
 (.ret [4, 5])) .skip))
 (.s [.mv 79 (.t 7), .mv 80 (.t 9), .bsl 81 3 1 [(.t 80)], .app 82 3 1 8 (.t 79) (.t 81), .as 7 (.t 82)] [79, 80, 81, 82]))))
 (.q [(8, (.op (.bin .add) [(.sl 8), (.k (.i .i64 1))]))])))
def code227 : FCode := ⟨2, [.tmp 4, .tmp 5],
 (.seq (.s [.box 2 (.t 0), .as 4 (.c (.i .i64 0)), .as 5 (.c (.i .i64 0))] [])
 (.seq (.seq (.q [(14, (.op (.ld 1 false) [(.op (.fa 0 1) [(.sl 2)])]))])
 (.blk 0 (.seq (.q [(15, (.op (.bin .eql) [(.sl 14), (.k (.i .i64 1))]))])
 (.cond (.sl 15) (.seq (.q [(4, (.k (.i .i64 1))), (5, (.k (.i .i64 0)))])
 (.ret [4, 5])) (.seq (.q [(17, (.op (.bin .eql) [(.sl 14), (.k (.i .i64 2))]))])
 (.cond (.sl 17) (.seq (.q [(4, (.k (.i .i64 2))), (5, (.k (.i .i64 0)))])
 (.ret [4, 5])) (.seq (.q [(19, (.op (.bin .eql) [(.sl 14), (.k (.i .i64 3))]))])
 (.cond (.sl 19) (.seq (.q [(4, (.k (.i .i64 3))), (5, (.k (.i .i64 0)))])
 (.ret [4, 5])) (.seq (.q [(21, (.op (.bin .eql) [(.sl 14), (.k (.i .i64 4))]))])
 (.cond (.sl 21) (.seq (.seq (.q [(6, (.k (.i .i64 0)))])
 (.blk 1 (.loop [1, 2, 6] body227_1)))
 (.seq (.q [(4, (.k (.i .i64 0))), (5, (.k (.i .i64 4)))])
 (.ret [4, 5]))) .skip))))))))))
 (.seq (.s [.bsl 58 3 1 [], .as 7 (.t 58)] [58])
 (.seq (.seq (.q [(8, (.k (.i .i64 0)))])
 (.blk 3 (.loop [1, 2, 7, 8] body227_2)))
 (.seq (.q [(11, (.op (.ext 0) [(.op (.call false 250) [(.op (.ld 1 false) [(.op (.fa 0 1) [(.sl 2)])]), (.sl 7)])])), (12, (.op (.ext 1) [(.op (.call false 250) [(.op (.ld 1 false) [(.op (.fa 0 1) [(.sl 2)])]), (.sl 7)])]))])
 (.seq (.seq (.q [(91, (.op (.un .not) [(.sl 12)]))])
 (.cond (.sl 91) (.seq (.q [(4, (.k (.i .i64 0))), (5, (.k (.i .i64 3)))])
 (.ret [4, 5])) .skip))
 (.seq (.q [(4, (.sl 11)), (5, (.k (.i .i64 0)))])
 (.ret [4, 5]))))))))⟩
theorem comp227 : compile Tryz.prog Tryz.f227 = some code227 := by kernel_rfl
theorem okf227 : okFn Tryz.prog 227 = true := by kernel_rfl
-- 228: corebank/corebankref19.Code
def body228_1 : C :=
 (.seq (.seq (.q [(10, (.op (.bin .lss) [(.sl 3), (.op .slen [(.sl 0)])]))])
 (.cond (.sl 10) .skip (.exit 0 [])))
 (.seq (.blk 1 (.seq (.q [(22, (.ite (.op (.bin .lss) [(.op .idx [(.sl 0), (.sl 3)]), (.k (.i .u8 65))]) (.k (.b true)) (.op (.bin .gtr) [(.op .idx [(.sl 0), (.sl 3)]), (.k (.i .u8 90))])))])
 (.cond (.sl 22) (.seq (.q [(2, (.k (.b false)))])
 (.ret [2])) .skip)))
 (.q [(3, (.op (.bin .add) [(.sl 3), (.k (.i .i64 1))]))])))
def code228 : FCode := ⟨1, [.tmp 2],
 (.seq (.q [(2, (.k (.b false)))])
 (.seq (.seq (.q [(6, (.op (.bin .neq) [(.op .slen [(.sl 0)]), (.k (.i .i64 3))]))])
 (.cond (.sl 6) (.seq (.q [(2, (.k (.b false)))])
 (.ret [2])) .skip))
 (.seq (.seq (.q [(3, (.k (.i .i64 0)))])
 (.blk 0 (.loop [0, 3] body228_1)))
 (.seq (.q [(2, (.k (.b true)))])
 (.ret [2])))))⟩
theorem comp228 : compile Tryz.prog Tryz.f228 = some code228 := by kernel_rfl
theorem okf228 : okFn Tryz.prog 228 = true := by kernel_rfl
-- 229: corebank/corebankref07.natural
def body229_1 : C :=
 (.seq (.seq (.q [(10, (.ite (.op (.bin .eql) [(.sl 3), (.k (.s []))]) (.k (.b true)) (.op (.bin .gtr) [(.sl 0), (.k (.i .u64 0))])))])
 (.cond (.sl 10) .skip (.exit 0 [3])))
 (.blk 1 (.seq (.q [(4, (.op (.bin .rem) [(.sl 0), (.k (.i .u64 10))]))])
 (.seq (.q [(3, (.op (.bin .add) [(.op (.slcs true true) [(.k (.s [48, 49, 50, 51, 52, 53, 54, 55, 56, 57])), (.sl 4), (.op (.bin .add) [(.sl 4), (.k (.i .u64 1))])]), (.sl 3)]))])
 (.q [(0, (.op (.bin .quo) [(.sl 0), (.k (.i .u64 10))]))])))))
def code229 : FCode := ⟨1, [.tmp 2],
 (.seq (.q [(2, (.k (.s [])))])
 (.seq (.q [(3, (.k (.s [])))])
 (.seq (.blk 0 (.loop [0, 3] body229_1))
 (.seq (.q [(2, (.sl 3))])
 (.ret [2])))))⟩
theorem comp229 : compile Tryz.prog Tryz.f229 = some code229 := by kernel_rfl
theorem okf229 : okFn Tryz.prog 229 = true := by kernel_rfl
-- 244: corebank/corebankref10.Great
def code244 : FCode := ⟨2, [.tmp 4],
 (.seq (.s [.box 2 (.t 0), .as 4 (.c (.b false))] [])
 (.seq (.q [(4, (.op (.bin .gtr) [(.op (.call false 269) [(.op (.ld 4 true) [(.sl 2)]), (.sl 1)]), (.sl 1)]))])
 (.ret [4])))⟩
theorem comp244 : compile Tryz.prog Tryz.f244 = some code244 := by kernel_rfl
theorem okf244 : okFn Tryz.prog 244 = true := by kernel_rfl
-- 245: corebank/corebankref10.Depth
def body245_1 : C :=
 (.seq (.seq (.q [(9, (.op (.bin .lss) [(.sl 4), (.op .len [(.op (.ld 1 false) [(.op (.fa 3 1) [(.sl 1)])])])]))])
 (.cond (.sl 9) .skip (.exit 0 [3])))
 (.seq (.blk 1 (.q [(3, (.op .mx [(.sl 3), (.op (.call false 245) [(.op (.ld 4 true) [(.op (.ix 4) [(.op (.ld 1 false) [(.op (.fa 3 1) [(.sl 1)])]), (.sl 4)])])])]))]))
 (.q [(4, (.op (.bin .add) [(.sl 4), (.k (.i .i64 1))]))])))
def code245 : FCode := ⟨1, [.tmp 2],
 (.seq (.s [.box 1 (.t 0), .as 2 (.c (.i .i64 0))] [])
 (.seq (.q [(3, (.k (.i .i64 0)))])
 (.seq (.seq (.q [(4, (.k (.i .i64 0)))])
 (.blk 0 (.loop [1, 3, 4] body245_1)))
 (.seq (.q [(2, (.op (.bin .add) [(.sl 3), (.k (.i .i64 1))]))])
 (.ret [2])))))⟩
theorem comp245 : compile Tryz.prog Tryz.f245 = some code245 := by kernel_rfl
theorem okf245 : okFn Tryz.prog 245 = true := by kernel_rfl
-- 246: corebank/corebankref10.right
def body246_1 : C :=
 (.seq (.seq (.q [(38, (.op (.bin .lss) [(.sl 3), (.op .len [(.op (.ld 1 false) [(.op (.fa 3 1) [(.sl 1)])])])]))])
 (.cond (.sl 38) .skip (.exit 0 [])))
 (.seq (.blk 1 (.seq (.q [(47, (.op (.un .not) [(.op (.call false 246) [(.op (.ld 4 true) [(.op (.ix 4) [(.op (.ld 1 false) [(.op (.fa 3 1) [(.sl 1)])]), (.sl 3)])])])]))])
 (.cond (.sl 47) (.seq (.q [(2, (.k (.b false)))])
 (.ret [2])) .skip)))
 (.q [(3, (.op (.bin .add) [(.sl 3), (.k (.i .i64 1))]))])))
def code246 : FCode := ⟨1, [.tmp 2],
 (.seq (.s [.box 1 (.t 0), .as 2 (.c (.b false))] [])
 (.seq (.seq (.q [(33, (.ite (.ite (.ite (.op (.bin .neq) [(.op .len [(.op (.ld 1 false) [(.op (.fa 3 1) [(.sl 1)])])]), (.op (.call true 270) [(.op (.ld 1 false) [(.op (.fa 0 1) [(.sl 1)])])])]) (.k (.b true)) (.op (.bin .lss) [(.op (.ld 1 false) [(.op (.fa 1 1) [(.sl 1)])]), (.k (.i .i64 0))])) (.k (.b true)) (.op (.bin .gtr) [(.op (.ld 1 false) [(.op (.fa 1 1) [(.sl 1)])]), (.op (.call true 271) [(.op (.ld 1 false) [(.op (.fa 0 1) [(.sl 1)])])])])) (.k (.b true)) (.ite (.op (.bin .neq) [(.op (.ld 1 false) [(.op (.fa 0 1) [(.sl 1)])]), (.k (.i .i64 4))]) (.op (.bin .neq) [(.op (.ld 1 false) [(.op (.fa 2 1) [(.sl 1)])]), (.k (.s []))]) (.k (.b false)))))])
 (.cond (.sl 33) (.seq (.q [(2, (.k (.b false)))])
 (.ret [2])) .skip))
 (.seq (.seq (.q [(3, (.k (.i .i64 0)))])
 (.blk 0 (.loop [1, 3] body246_1)))
 (.seq (.q [(2, (.k (.b true)))])
 (.ret [2])))))⟩
theorem comp246 : compile Tryz.prog Tryz.f246 = some code246 := by kernel_rfl
theorem okf246 : okFn Tryz.prog 246 = true := by kernel_rfl
-- 247: corebank/corebankref10.Names
def body247_1 : C :=
 (.seq (.seq (.q [(31, (.op (.bin .lss) [(.sl 6), (.op .len [(.sl 5)])]))])
 (.cond (.sl 31) .skip (.exit 2 [1, 3, 4])))
 (.seq (.blk 3 (.s [.mv 34 (.t 3), .mv 35 (.t 5), .mv 36 (.t 6), .ix 37 1 (.t 35) (.t 36), .q 38 (.ld 1 false) [(.t 37)], .call (some 39) 272 [(.t 34), (.t 38)], .as 3 (.t 39)] [34, 35, 36, 37, 38, 39]))
 (.q [(6, (.op (.bin .add) [(.sl 6), (.k (.i .i64 1))]))])))
def body247_2 : C :=
 (.seq (.seq (.q [(19, (.op (.bin .lss) [(.sl 4), (.op .len [(.op (.ld 1 false) [(.op (.fa 3 1) [(.sl 1)])])])]))])
 (.cond (.sl 19) .skip (.exit 0 [3])))
 (.seq (.blk 1 (.seq (.s [.fa 22 3 1 (.t 1), .q 23 (.ld 1 false) [(.t 22)], .mv 24 (.t 4), .ix 25 4 (.t 23) (.t 24), .q 26 (.ld 4 true) [(.t 25)], .call (some 27) 247 [(.t 26)], .as 5 (.t 27)] [22, 23, 24, 25, 26, 27])
 (.seq (.q [(6, (.k (.i .i64 0)))])
 (.blk 2 (.loop [1, 3, 4, 5, 6] body247_1)))))
 (.q [(4, (.op (.bin .add) [(.sl 4), (.k (.i .i64 1))]))])))
def code247 : FCode := ⟨1, [.tmp 2],
 (.seq (.s [.box 1 (.t 0), .as 2 (.c (.ow 9 []))] [])
 (.seq (.s [.as 3 (.c (.ow 9 []))] [])
 (.seq (.seq (.q [(9, (.op (.bin .eql) [(.op (.ld 1 false) [(.op (.fa 0 1) [(.sl 1)])]), (.k (.i .i64 4))]))])
 (.cond (.sl 9) (.s [.mv 10 (.t 3), .fa 11 2 1 (.t 1), .q 12 (.ld 1 false) [(.t 11)], .bsl 13 9 1 [(.t 12)], .app 14 9 1 16 (.t 10) (.t 13), .as 3 (.t 14)] [10, 11, 12, 13, 14]) .skip))
 (.seq (.seq (.q [(4, (.k (.i .i64 0)))])
 (.blk 0 (.loop [1, 3, 4] body247_2)))
 (.seq (.s [.mv 40 (.t 3), .as 2 (.t 40)] [40])
 (.ret [2]))))))⟩
theorem comp247 : compile Tryz.prog Tryz.f247 = some code247 := by kernel_rfl
theorem okf247 : okFn Tryz.prog 247 = true := by kernel_rfl
-- 248: corebank/corebankref10.Variable
def code248 : FCode := ⟨1, [.tmp 2],
 (.seq (.q [(2, (.k (.b false)))])
 (.seq (.q [(2, (.ite (.op (.call false 273) [(.sl 0)]) (.op (.un .not) [(.op (.call false 274) [(.sl 0)])]) (.k (.b false))))])
 (.ret [2])))⟩
theorem comp248 : compile Tryz.prog Tryz.f248 = some code248 := by kernel_rfl
theorem okf248 : okFn Tryz.prog 248 = true := by kernel_rfl
-- 249: corebank/corebankref11.Good
def code249 : FCode := ⟨1, [.tmp 2],
 (.seq (.q [(2, (.k (.b false)))])
 (.seq (.q [(2, (.ite (.op (.bin .geq) [(.sl 0), (.k (.i .i64 1))]) (.op (.bin .leq) [(.sl 0), (.k (.i .i64 5))]) (.k (.b false))))])
 (.ret [2])))⟩
theorem comp249 : compile Tryz.prog Tryz.f249 = some code249 := by kernel_rfl
theorem okf249 : okFn Tryz.prog 249 = true := by kernel_rfl
-- 250: corebank/corebankref11.Result
def body250_1 : C :=
 (.seq (.seq (.q [(15, (.op (.bin .lss) [(.sl 6), (.op .len [(.sl 1)])]))])
 (.cond (.sl 15) .skip (.exit 0 [0, 1])))
 (.seq (.blk 1 (.seq (.q [(23, (.op (.un .not) [(.op (.call false 249) [(.op (.ld 1 false) [(.op (.ix 1) [(.sl 1), (.sl 6)])])])]))])
 (.cond (.sl 23) (.seq (.q [(4, (.k (.i .i64 0))), (5, (.k (.b false)))])
 (.ret [4, 5])) .skip)))
 (.q [(6, (.op (.bin .add) [(.sl 6), (.k (.i .i64 1))]))])))
def code250 : FCode := ⟨2, [.tmp 4, .tmp 5],
 (.seq (.q [(4, (.k (.i .i64 0))), (5, (.k (.b false)))])
 (.seq (.seq (.q [(11, (.op (.bin .gtr) [(.op .len [(.sl 1)]), (.k (.i .i64 3))]))])
 (.cond (.sl 11) (.seq (.q [(4, (.k (.i .i64 0))), (5, (.k (.b false)))])
 (.ret [4, 5])) .skip))
 (.seq (.seq (.q [(6, (.k (.i .i64 0)))])
 (.blk 0 (.loop [0, 1, 6] body250_1)))
 (.seq (.q [(7, (.op (.ext 0) [(.op (.call false 275) [(.sl 0), (.sl 1)])])), (8, (.op (.ext 1) [(.op (.call false 275) [(.sl 0), (.sl 1)])]))])
 (.seq (.seq (.q [(31, (.op (.un .not) [(.sl 8)]))])
 (.cond (.sl 31) (.seq (.q [(4, (.k (.i .i64 0))), (5, (.k (.b false)))])
 (.ret [4, 5])) .skip))
 (.seq (.q [(4, (.sl 7)), (5, (.k (.b true)))])
 (.ret [4, 5])))))))⟩
theorem comp250 : compile Tryz.prog Tryz.f250 = some code250 := by kernel_rfl
theorem okf250 : okFn Tryz.prog 250 = true := by kernel_rfl
-- 269: corebank/corebankref10.count
def body269_1 : C :=
 (.seq (.seq (.q [(16, (.ite (.op (.bin .lss) [(.sl 6), (.op .len [(.op (.ld 1 false) [(.op (.fa 3 1) [(.sl 2)])])])]) (.op (.bin .leq) [(.sl 5), (.sl 1)]) (.k (.b false))))])
 (.cond (.sl 16) .skip (.exit 0 [5])))
 (.seq (.blk 1 (.q [(5, (.op (.bin .add) [(.sl 5), (.op (.call false 269) [(.op (.ld 4 true) [(.op (.ix 4) [(.op (.ld 1 false) [(.op (.fa 3 1) [(.sl 2)])]), (.sl 6)])]), (.op (.bin .sub) [(.sl 1), (.sl 5)])])]))]))
 (.q [(6, (.op (.bin .add) [(.sl 6), (.k (.i .i64 1))]))])))
def code269 : FCode := ⟨2, [.tmp 4],
 (.seq (.s [.box 2 (.t 0), .as 4 (.c (.i .i64 0))] [])
 (.seq (.q [(5, (.k (.i .i64 1)))])
 (.seq (.seq (.q [(6, (.k (.i .i64 0)))])
 (.blk 0 (.loop [1, 2, 5, 6] body269_1)))
 (.seq (.q [(4, (.sl 5))])
 (.ret [4])))))⟩
theorem comp269 : compile Tryz.prog Tryz.f269 = some code269 := by kernel_rfl
theorem okf269 : okFn Tryz.prog 269 = true := by kernel_rfl
-- 270: corebank/corebankref10.Operands
def code270 : FCode := ⟨1, [.tmp 2],
 (.seq (.q [(2, (.k (.i .i64 0)))])
 (.seq (.blk 0 (.seq (.q [(3, (.ite (.op (.bin .lss) [(.sl 0), (.k (.i .i64 1))]) (.k (.b true)) (.op (.bin .gtr) [(.sl 0), (.k (.i .i64 19))])))])
 (.cond (.sl 3) (.seq (.q [(2, (.k (.i .i64 (-1))))])
 (.ret [2])) (.seq (.q [(10, (.op (.bin .leq) [(.sl 0), (.k (.i .i64 4))]))])
 (.cond (.sl 10) (.seq (.q [(2, (.k (.i .i64 0)))])
 (.ret [2])) (.seq (.q [(13, (.ite (.op (.bin .eql) [(.sl 0), (.k (.i .i64 9))]) (.k (.b true)) (.op (.bin .eql) [(.sl 0), (.k (.i .i64 16))])))])
 (.cond (.sl 13) (.seq (.q [(2, (.k (.i .i64 1)))])
 (.ret [2])) (.seq (.q [(20, (.op (.bin .eql) [(.sl 0), (.k (.i .i64 19))]))])
 (.cond (.sl 20) (.seq (.q [(2, (.k (.i .i64 3)))])
 (.ret [2])) .skip)))))))))
 (.seq (.q [(2, (.k (.i .i64 2)))])
 (.ret [2]))))⟩
theorem comp270 : compile Tryz.prog Tryz.f270 = some code270 := by kernel_rfl
theorem okf270 : okFn Tryz.prog 270 = true := by kernel_rfl
-- 271: corebank/corebankref10.most
def code271 : FCode := ⟨1, [.tmp 2],
 (.seq (.q [(2, (.k (.i .i64 0)))])
 (.seq (.seq (.q [(3, (.sl 0))])
 (.blk 0 (.seq (.q [(4, (.op (.bin .eql) [(.sl 3), (.k (.i .i64 1))]))])
 (.cond (.sl 4) (.seq (.q [(2, (.k (.i .i64 9223372036854775807)))])
 (.ret [2])) (.seq (.q [(6, (.op (.bin .eql) [(.sl 3), (.k (.i .i64 2))]))])
 (.cond (.sl 6) (.seq (.q [(2, (.k (.i .i64 1000000000000)))])
 (.ret [2])) (.seq (.q [(8, (.op (.bin .eql) [(.sl 3), (.k (.i .i64 3))]))])
 (.cond (.sl 8) (.seq (.q [(2, (.k (.i .i64 1000000)))])
 (.ret [2])) .skip))))))))
 (.seq (.q [(2, (.k (.i .i64 0)))])
 (.ret [2]))))⟩
theorem comp271 : compile Tryz.prog Tryz.f271 = some code271 := by kernel_rfl
theorem okf271 : okFn Tryz.prog 271 = true := by kernel_rfl
-- 272: corebank/corebankref10.insert
def body272_1 : C :=
 (.seq (.seq (.q [(18, (.ite (.op (.bin .lss) [(.sl 5), (.op .len [(.sl 0)])]) (.op (.bin .lss) [(.op (.ld 1 false) [(.op (.ix 1) [(.sl 0), (.sl 5)])]), (.sl 1)]) (.k (.b false))))])
 (.cond (.sl 18) .skip (.exit 0 [0, 1, 5])))
 (.blk 1 (.q [(5, (.op (.bin .add) [(.sl 5), (.k (.i .i64 1))]))])))
def code272 : FCode := ⟨2, [.tmp 4],
 (.seq (.s [.as 4 (.c (.ow 9 []))] [])
 (.seq (.q [(5, (.k (.i .i64 0)))])
 (.seq (.blk 0 (.loop [0, 1, 5] body272_1))
 (.seq (.seq (.q [(32, (.ite (.op (.bin .lss) [(.sl 5), (.op .len [(.sl 0)])]) (.op (.bin .eql) [(.op (.ld 1 false) [(.op (.ix 1) [(.sl 0), (.sl 5)])]), (.sl 1)]) (.k (.b false))))])
 (.cond (.sl 32) (.seq (.s [.mv 33 (.t 0), .as 4 (.t 33)] [33])
 (.ret [4])) .skip))
 (.seq (.s [.as 6 (.c (.ow 9 []))] [])
 (.seq (.s [.mv 34 (.t 6), .mv 35 (.t 0), .mv 36 (.t 5), .slc 37 1 false true [(.t 35), (.t 36)], .app 38 9 1 16 (.t 34) (.t 37), .as 6 (.t 38)] [34, 35, 36, 37, 38])
 (.seq (.s [.mv 39 (.t 6), .mv 40 (.t 1), .bsl 41 9 1 [(.t 40)], .app 42 9 1 16 (.t 39) (.t 41), .as 6 (.t 42)] [39, 40, 41, 42])
 (.seq (.s [.mv 43 (.t 6), .mv 44 (.t 0), .mv 45 (.t 5), .slc 46 1 true false [(.t 44), (.t 45)], .app 47 9 1 16 (.t 43) (.t 46), .as 6 (.t 47)] [43, 44, 45, 46, 47])
 (.seq (.s [.mv 48 (.t 6), .as 4 (.t 48)] [48])
 (.ret [4]))))))))))⟩
theorem comp272 : compile Tryz.prog Tryz.f272 = some code272 := by kernel_rfl
theorem okf272 : okFn Tryz.prog 272 = true := by kernel_rfl
-- 273: corebank/corebankref07.Name
def body273_1 : C :=
 (.seq (.seq (.q [(25, (.op (.bin .lss) [(.sl 3), (.op .slen [(.sl 0)])]))])
 (.cond (.sl 25) .skip (.exit 0 [])))
 (.seq (.blk 1 (.seq (.q [(55, (.ite (.ite (.ite (.op (.bin .lss) [(.op .idx [(.sl 0), (.sl 3)]), (.k (.i .u8 97))]) (.k (.b true)) (.op (.bin .gtr) [(.op .idx [(.sl 0), (.sl 3)]), (.k (.i .u8 122))])) (.ite (.op (.bin .lss) [(.op .idx [(.sl 0), (.sl 3)]), (.k (.i .u8 48))]) (.k (.b true)) (.op (.bin .gtr) [(.op .idx [(.sl 0), (.sl 3)]), (.k (.i .u8 57))])) (.k (.b false))) (.op (.bin .neq) [(.op .idx [(.sl 0), (.sl 3)]), (.k (.i .u8 95))]) (.k (.b false))))])
 (.cond (.sl 55) (.seq (.q [(2, (.k (.b false)))])
 (.ret [2])) .skip)))
 (.q [(3, (.op (.bin .add) [(.sl 3), (.k (.i .i64 1))]))])))
def code273 : FCode := ⟨1, [.tmp 2],
 (.seq (.q [(2, (.k (.b false)))])
 (.seq (.seq (.q [(21, (.ite (.ite (.ite (.op (.bin .lss) [(.op .slen [(.sl 0)]), (.k (.i .i64 1))]) (.k (.b true)) (.op (.bin .gtr) [(.op .slen [(.sl 0)]), (.k (.i .i64 16))])) (.k (.b true)) (.op (.bin .lss) [(.op .idx [(.sl 0), (.k (.i .i64 0))]), (.k (.i .u8 97))])) (.k (.b true)) (.op (.bin .gtr) [(.op .idx [(.sl 0), (.k (.i .i64 0))]), (.k (.i .u8 122))])))])
 (.cond (.sl 21) (.seq (.q [(2, (.k (.b false)))])
 (.ret [2])) .skip))
 (.seq (.seq (.q [(3, (.k (.i .i64 0)))])
 (.blk 0 (.loop [0, 3] body273_1)))
 (.seq (.q [(2, (.k (.b true)))])
 (.ret [2])))))⟩
theorem comp273 : compile Tryz.prog Tryz.f273 = some code273 := by kernel_rfl
theorem okf273 : okFn Tryz.prog 273 = true := by kernel_rfl
-- 274: corebank/corebankref09.Word
def body274_1 : C :=
 (.seq (.seq (.q [(9, (.op (.bin .lss) [(.sl 4), (.op .len [(.sl 3)])]))])
 (.cond (.sl 9) .skip (.exit 0 [])))
 (.seq (.blk 1 (.seq (.q [(17, (.op (.bin .eql) [(.op (.ld 1 false) [(.op (.ix 1) [(.sl 3), (.sl 4)])]), (.sl 0)]))])
 (.cond (.sl 17) (.seq (.q [(2, (.k (.b true)))])
 (.ret [2])) .skip)))
 (.q [(4, (.op (.bin .add) [(.sl 4), (.k (.i .i64 1))]))])))
def code274 : FCode := ⟨1, [.tmp 2],
 (.seq (.q [(2, (.k (.b false)))])
 (.seq (.s [.call (some 5) 288 [], .as 3 (.t 5)] [5])
 (.seq (.seq (.q [(4, (.k (.i .i64 0)))])
 (.blk 0 (.loop [0, 3, 4] body274_1)))
 (.seq (.q [(2, (.k (.b false)))])
 (.ret [2])))))⟩
theorem comp274 : compile Tryz.prog Tryz.f274 = some code274 := by kernel_rfl
theorem okf274 : okFn Tryz.prog 274 = true := by kernel_rfl
-- 275: corebank/corebankref11.result
def code275 : FCode := ⟨2, [.tmp 4, .tmp 5],
 (.seq (.q [(4, (.k (.i .i64 0))), (5, (.k (.b false)))])
 (.seq (.seq (.q [(12, (.ite (.op (.bin .eql) [(.sl 0), (.k (.i .i64 9))]) (.op (.bin .eql) [(.op .len [(.sl 1)]), (.k (.i .i64 1))]) (.k (.b false))))])
 (.cond (.sl 12) (.seq (.q [(4, (.op (.ld 1 false) [(.op (.ix 1) [(.sl 1), (.k (.i .i64 0))])])), (5, (.op (.call true 289) [(.op (.ld 1 false) [(.op (.ix 1) [(.sl 1), (.k (.i .i64 0))])])]))])
 (.ret [4, 5])) .skip))
 (.seq (.seq (.q [(26, (.ite (.op (.bin .eql) [(.sl 0), (.k (.i .i64 16))]) (.op (.bin .eql) [(.op .len [(.sl 1)]), (.k (.i .i64 1))]) (.k (.b false))))])
 (.cond (.sl 26) (.seq (.q [(4, (.k (.i .i64 5))), (5, (.op (.bin .eql) [(.op (.ld 1 false) [(.op (.ix 1) [(.sl 1), (.k (.i .i64 0))])]), (.k (.i .i64 5))]))])
 (.ret [4, 5])) .skip))
 (.seq (.seq (.q [(37, (.ite (.op (.bin .eql) [(.sl 0), (.k (.i .i64 19))]) (.op (.bin .eql) [(.op .len [(.sl 1)]), (.k (.i .i64 3))]) (.k (.b false))))])
 (.cond (.sl 37) (.seq (.q [(4, (.op (.ld 1 false) [(.op (.ix 1) [(.sl 1), (.k (.i .i64 1))])])), (5, (.ite (.op (.bin .eql) [(.op (.ld 1 false) [(.op (.ix 1) [(.sl 1), (.k (.i .i64 0))])]), (.k (.i .i64 5))]) (.op (.bin .eql) [(.op (.ld 1 false) [(.op (.ix 1) [(.sl 1), (.k (.i .i64 1))])]), (.op (.ld 1 false) [(.op (.ix 1) [(.sl 1), (.k (.i .i64 2))])])]) (.k (.b false))))])
 (.ret [4, 5])) .skip))
 (.seq (.seq (.q [(56, (.op (.bin .eql) [(.op .len [(.sl 1)]), (.k (.i .i64 2))]))])
 (.cond (.sl 56) (.seq (.q [(4, (.op (.ext 0) [(.op (.call true 290) [(.sl 0), (.op (.ld 1 false) [(.op (.ix 1) [(.sl 1), (.k (.i .i64 0))])]), (.op (.ld 1 false) [(.op (.ix 1) [(.sl 1), (.k (.i .i64 1))])])])])), (5, (.op (.ext 1) [(.op (.call true 290) [(.sl 0), (.op (.ld 1 false) [(.op (.ix 1) [(.sl 1), (.k (.i .i64 0))])]), (.op (.ld 1 false) [(.op (.ix 1) [(.sl 1), (.k (.i .i64 1))])])])]))])
 (.ret [4, 5])) .skip))
 (.seq (.q [(4, (.k (.i .i64 0))), (5, (.k (.b false)))])
 (.ret [4, 5])))))))⟩
theorem comp275 : compile Tryz.prog Tryz.f275 = some code275 := by kernel_rfl
theorem okf275 : okFn Tryz.prog 275 = true := by kernel_rfl
-- 288: corebank/corebankref09.Words
def code288 : FCode := ⟨0, [.tmp 0],
 (.seq (.s [.as 0 (.c (.ow 9 []))] [])
 (.seq (.s [.bsl 1 9 1 [(.c (.s [112, 114, 111, 100, 117, 99, 116])), (.c (.s [99, 117, 114, 114, 101, 110, 99, 121])), (.c (.s [99, 97, 108, 101, 110, 100, 97, 114])), (.c (.s [102, 114, 111, 109])), (.c (.s [101, 118, 101, 114, 121])), (.c (.s [111, 118, 101, 114, 100, 114, 97, 102, 116])), (.c (.s [116, 97, 120])), (.c (.s [99, 114, 101, 100, 105, 116])), (.c (.s [100, 101, 98, 105, 116])), (.c (.s [109, 97, 114, 103, 105, 110, 97, 108])), (.c (.s [119, 104, 111, 108, 101])), (.c (.s [97, 99, 116, 51, 54, 48])), (.c (.s [97, 99, 116, 51, 54, 53])), (.c (.s [97, 99, 116, 117, 97, 108])), (.c (.s [116, 104, 105, 114, 116, 121])), (.c (.s [100, 111, 119, 110])), (.c (.s [117, 112])), (.c (.s [102, 108, 111, 111, 114])), (.c (.s [99, 101, 105, 108])), (.c (.s [104, 97, 108, 102, 95, 117, 112])), (.c (.s [104, 97, 108, 102, 95, 101, 118, 101, 110])), (.c (.s [107, 101, 101, 112])), (.c (.s [100, 114, 111, 112])), (.c (.s [102, 101, 101])), (.c (.s [108, 105, 109, 105, 116])), (.c (.s [119, 104, 101, 110])), (.c (.s [97, 109, 111, 117, 110, 116, 95, 111, 102])), (.c (.s [115, 105, 110, 103, 108, 101])), (.c (.s [100, 97, 105, 108, 121])), (.c (.s [109, 111, 110, 116, 104, 108, 121])), (.c (.s [109, 111, 110, 116, 104])), (.c (.s [114, 101, 116, 117, 114, 110])), (.c (.s [99, 108, 111, 115, 101])), (.c (.s [101, 118, 101, 110, 116])), (.c (.s [105, 102])), (.c (.s [116, 104, 101, 110])), (.c (.s [101, 108, 115, 101])), (.c (.s [97, 110, 100])), (.c (.s [111, 114])), (.c (.s [110, 111, 116])), (.c (.s [109, 105, 110])), (.c (.s [109, 97, 120]))], .as 0 (.t 1)] [1])
 (.ret [0])))⟩
theorem comp288 : compile Tryz.prog Tryz.f288 = some code288 := by kernel_rfl
theorem okf288 : okFn Tryz.prog 288 = true := by kernel_rfl
-- 289: corebank/corebankref11.scalar
def code289 : FCode := ⟨1, [.tmp 2],
 (.seq (.q [(2, (.k (.b false)))])
 (.seq (.q [(2, (.ite (.ite (.op (.bin .eql) [(.sl 0), (.k (.i .i64 1))]) (.k (.b true)) (.op (.bin .eql) [(.sl 0), (.k (.i .i64 2))])) (.k (.b true)) (.op (.bin .eql) [(.sl 0), (.k (.i .i64 3))])))])
 (.ret [2])))⟩
theorem comp289 : compile Tryz.prog Tryz.f289 = some code289 := by kernel_rfl
theorem okf289 : okFn Tryz.prog 289 = true := by kernel_rfl
-- 290: corebank/corebankref11.two
def code290 : FCode := ⟨3, [.tmp 6, .tmp 7],
 (.seq (.q [(6, (.k (.i .i64 0))), (7, (.k (.b false)))])
 (.seq (.seq (.q [(8, (.sl 0))])
 (.blk 0 (.seq (.q [(9, (.op (.bin .eql) [(.sl 8), (.k (.i .i64 5))]))])
 (.cond (.sl 9) (.seq (.seq (.q [(12, (.op (.bin .eql) [(.sl 1), (.k (.i .i64 4))]))])
 (.cond (.sl 12) (.seq (.q [(6, (.sl 1)), (7, (.op (.bin .eql) [(.sl 2), (.k (.i .i64 1))]))])
 (.ret [6, 7])) .skip))
 (.seq (.q [(6, (.sl 1)), (7, (.ite (.op (.bin .eql) [(.sl 1), (.sl 2)]) (.op (.call false 289) [(.sl 1)]) (.k (.b false))))])
 (.ret [6, 7]))) (.seq (.q [(24, (.op (.bin .eql) [(.sl 8), (.k (.i .i64 6))]))])
 (.cond (.sl 24) (.seq (.seq (.q [(31, (.ite (.op (.bin .eql) [(.sl 1), (.k (.i .i64 4))]) (.op (.bin .eql) [(.sl 2), (.k (.i .i64 4))]) (.k (.b false))))])
 (.cond (.sl 31) (.seq (.q [(6, (.k (.i .i64 1))), (7, (.k (.b true)))])
 (.ret [6, 7])) .skip))
 (.seq (.seq (.q [(33, (.op (.bin .eql) [(.sl 1), (.k (.i .i64 4))]))])
 (.cond (.sl 33) (.seq (.q [(6, (.sl 1)), (7, (.op (.bin .eql) [(.sl 2), (.k (.i .i64 1))]))])
 (.ret [6, 7])) .skip))
 (.seq (.q [(6, (.sl 1)), (7, (.ite (.op (.bin .eql) [(.sl 1), (.sl 2)]) (.op (.call false 289) [(.sl 1)]) (.k (.b false))))])
 (.ret [6, 7])))) (.seq (.q [(45, (.op (.bin .eql) [(.sl 8), (.k (.i .i64 7))]))])
 (.cond (.sl 45) (.seq (.q [(6, (.op (.ext 0) [(.op (.call false 302) [(.sl 1), (.sl 2)])])), (7, (.op (.ext 1) [(.op (.call false 302) [(.sl 1), (.sl 2)])]))])
 (.ret [6, 7])) (.seq (.q [(52, (.op (.bin .eql) [(.sl 8), (.k (.i .i64 8))]))])
 (.cond (.sl 52) (.seq (.seq (.q [(59, (.ite (.op (.bin .eql) [(.sl 1), (.k (.i .i64 2))]) (.op (.bin .eql) [(.sl 2), (.k (.i .i64 2))]) (.k (.b false))))])
 (.cond (.sl 59) (.seq (.q [(6, (.k (.i .i64 1))), (7, (.k (.b true)))])
 (.ret [6, 7])) .skip))
 (.seq (.q [(6, (.sl 1)), (7, (.ite (.op (.call false 289) [(.sl 1)]) (.op (.bin .eql) [(.sl 2), (.k (.i .i64 1))]) (.k (.b false))))])
 (.ret [6, 7]))) (.seq (.seq (.q [(67, (.op (.bin .eql) [(.sl 8), (.k (.i .i64 10))]))])
 (.cond (.sl 67) .skip (.q [(67, (.op (.bin .eql) [(.sl 8), (.k (.i .i64 11))]))])))
 (.cond (.sl 67) (.seq (.q [(6, (.k (.i .i64 5))), (7, (.op (.bin .eql) [(.sl 1), (.sl 2)]))])
 (.ret [6, 7])) (.seq (.seq (.q [(73, (.op (.bin .eql) [(.sl 8), (.k (.i .i64 12))]))])
 (.cond (.sl 73) .skip (.q [(73, (.op (.bin .eql) [(.sl 8), (.k (.i .i64 13))]))])))
 (.cond (.sl 73) (.seq (.q [(6, (.k (.i .i64 5))), (7, (.ite (.op (.bin .eql) [(.sl 1), (.sl 2)]) (.op (.bin .neq) [(.sl 1), (.k (.i .i64 5))]) (.k (.b false))))])
 (.ret [6, 7])) (.seq (.seq (.q [(83, (.op (.bin .eql) [(.sl 8), (.k (.i .i64 14))]))])
 (.cond (.sl 83) .skip (.q [(83, (.op (.bin .eql) [(.sl 8), (.k (.i .i64 15))]))])))
 (.cond (.sl 83) (.seq (.q [(6, (.k (.i .i64 5))), (7, (.ite (.op (.bin .eql) [(.sl 1), (.k (.i .i64 5))]) (.op (.bin .eql) [(.sl 2), (.k (.i .i64 5))]) (.k (.b false))))])
 (.ret [6, 7])) (.seq (.seq (.q [(92, (.op (.bin .eql) [(.sl 8), (.k (.i .i64 17))]))])
 (.cond (.sl 92) .skip (.q [(92, (.op (.bin .eql) [(.sl 8), (.k (.i .i64 18))]))])))
 (.cond (.sl 92) (.seq (.q [(6, (.sl 1)), (7, (.ite (.op (.bin .eql) [(.sl 1), (.sl 2)]) (.op (.bin .neq) [(.sl 1), (.k (.i .i64 5))]) (.k (.b false))))])
 (.ret [6, 7])) .skip))))))))))))))))))
 (.seq (.q [(6, (.k (.i .i64 0))), (7, (.k (.b false)))])
 (.ret [6, 7]))))⟩
theorem comp290 : compile Tryz.prog Tryz.f290 = some code290 := by kernel_rfl
theorem okf290 : okFn Tryz.prog 290 = true := by kernel_rfl
-- 302: corebank/corebankref11.product
def code302 : FCode := ⟨2, [.tmp 4, .tmp 5],
 (.seq (.q [(4, (.k (.i .i64 0))), (5, (.k (.b false)))])
 (.seq (.seq (.q [(13, (.ite (.op (.un .not) [(.op (.call false 289) [(.sl 0)])]) (.k (.b true)) (.op (.un .not) [(.op (.call false 289) [(.sl 1)])])))])
 (.cond (.sl 13) (.seq (.q [(4, (.k (.i .i64 0))), (5, (.k (.b false)))])
 (.ret [4, 5])) .skip))
 (.seq (.seq (.q [(15, (.op (.bin .eql) [(.sl 0), (.k (.i .i64 1))]))])
 (.cond (.sl 15) (.seq (.q [(4, (.sl 1)), (5, (.k (.b true)))])
 (.ret [4, 5])) .skip))
 (.seq (.seq (.q [(18, (.op (.bin .eql) [(.sl 1), (.k (.i .i64 1))]))])
 (.cond (.sl 18) (.seq (.q [(4, (.sl 0)), (5, (.k (.b true)))])
 (.ret [4, 5])) .skip))
 (.seq (.q [(4, (.k (.i .i64 2))), (5, (.op (.bin .neq) [(.sl 0), (.sl 1)]))])
 (.ret [4, 5]))))))⟩
theorem comp302 : compile Tryz.prog Tryz.f302 = some code302 := by kernel_rfl
theorem okf302 : okFn Tryz.prog 302 = true := by kernel_rfl
def codes : List (Nat × FCode) := [(3, code3), (5, code5), (6, code6), (8, code8), (9, code9), (10, code10), (15, code15), (16, code16), (17, code17), (18, code18), (19, code19), (20, code20), (21, code21), (36, code36), (37, code37), (38, code38), (39, code39), (40, code40), (41, code41), (42, code42), (43, code43), (44, code44), (45, code45), (46, code46), (47, code47), (48, code48), (49, code49), (50, code50), (51, code51), (62, code62), (74, code74), (75, code75), (76, code76), (77, code77), (78, code78), (79, code79), (80, code80), (81, code81), (82, code82), (83, code83), (84, code84), (85, code85), (86, code86), (87, code87), (88, code88), (89, code89), (90, code90), (91, code91), (92, code92), (93, code93), (94, code94), (104, code104), (125, code125), (126, code126), (127, code127), (128, code128), (129, code129), (130, code130), (131, code131), (132, code132), (133, code133), (134, code134), (135, code135), (136, code136), (137, code137), (138, code138), (139, code139), (140, code140), (141, code141), (142, code142), (143, code143), (144, code144), (152, code152), (153, code153), (172, code172), (173, code173), (174, code174), (175, code175), (176, code176), (177, code177), (178, code178), (179, code179), (180, code180), (181, code181), (182, code182), (183, code183), (205, code205), (206, code206), (207, code207), (208, code208), (209, code209), (210, code210), (211, code211), (212, code212), (226, code226), (227, code227), (228, code228), (229, code229), (244, code244), (245, code245), (246, code246), (247, code247), (248, code248), (249, code249), (250, code250), (269, code269), (270, code270), (271, code271), (272, code272), (273, code273), (274, code274), (275, code275), (288, code288), (289, code289), (290, code290), (302, code302)]
noncomputable def tab (f : Nat) : Option FCode := if f = 12 ∨ f = 111 ∨ f = 165 ∨ f = 203 then none else tabP Tryz.prog codes f
theorem codes_ok : ∀ p ∈ codes, ∃ fn, Tryz.prog.funcs[p.1]? = some fn ∧ compile Tryz.prog fn = some p.2 ∧ okFn Tryz.prog p.1 = true := by
  unfold codes
  simp only [List.forall_mem_cons]
  exact ⟨⟨_, Tryz.func3, comp3, okf3⟩, ⟨_, Tryz.func5, comp5, okf5⟩, ⟨_, Tryz.func6, comp6, okf6⟩, ⟨_, Tryz.func8, comp8, okf8⟩, ⟨_, Tryz.func9, comp9, okf9⟩, ⟨_, Tryz.func10, comp10, okf10⟩, ⟨_, Tryz.func15, comp15, okf15⟩, ⟨_, Tryz.func16, comp16, okf16⟩, ⟨_, Tryz.func17, comp17, okf17⟩, ⟨_, Tryz.func18, comp18, okf18⟩, ⟨_, Tryz.func19, comp19, okf19⟩, ⟨_, Tryz.func20, comp20, okf20⟩, ⟨_, Tryz.func21, comp21, okf21⟩, ⟨_, Tryz.func36, comp36, okf36⟩, ⟨_, Tryz.func37, comp37, okf37⟩, ⟨_, Tryz.func38, comp38, okf38⟩, ⟨_, Tryz.func39, comp39, okf39⟩, ⟨_, Tryz.func40, comp40, okf40⟩, ⟨_, Tryz.func41, comp41, okf41⟩, ⟨_, Tryz.func42, comp42, okf42⟩, ⟨_, Tryz.func43, comp43, okf43⟩, ⟨_, Tryz.func44, comp44, okf44⟩, ⟨_, Tryz.func45, comp45, okf45⟩, ⟨_, Tryz.func46, comp46, okf46⟩, ⟨_, Tryz.func47, comp47, okf47⟩, ⟨_, Tryz.func48, comp48, okf48⟩, ⟨_, Tryz.func49, comp49, okf49⟩, ⟨_, Tryz.func50, comp50, okf50⟩, ⟨_, Tryz.func51, comp51, okf51⟩, ⟨_, Tryz.func62, comp62, okf62⟩, ⟨_, Tryz.func74, comp74, okf74⟩, ⟨_, Tryz.func75, comp75, okf75⟩, ⟨_, Tryz.func76, comp76, okf76⟩, ⟨_, Tryz.func77, comp77, okf77⟩, ⟨_, Tryz.func78, comp78, okf78⟩, ⟨_, Tryz.func79, comp79, okf79⟩, ⟨_, Tryz.func80, comp80, okf80⟩, ⟨_, Tryz.func81, comp81, okf81⟩, ⟨_, Tryz.func82, comp82, okf82⟩, ⟨_, Tryz.func83, comp83, okf83⟩, ⟨_, Tryz.func84, comp84, okf84⟩, ⟨_, Tryz.func85, comp85, okf85⟩, ⟨_, Tryz.func86, comp86, okf86⟩, ⟨_, Tryz.func87, comp87, okf87⟩, ⟨_, Tryz.func88, comp88, okf88⟩, ⟨_, Tryz.func89, comp89, okf89⟩, ⟨_, Tryz.func90, comp90, okf90⟩, ⟨_, Tryz.func91, comp91, okf91⟩, ⟨_, Tryz.func92, comp92, okf92⟩, ⟨_, Tryz.func93, comp93, okf93⟩, ⟨_, Tryz.func94, comp94, okf94⟩, ⟨_, Tryz.func104, comp104, okf104⟩, ⟨_, Tryz.func125, comp125, okf125⟩, ⟨_, Tryz.func126, comp126, okf126⟩, ⟨_, Tryz.func127, comp127, okf127⟩, ⟨_, Tryz.func128, comp128, okf128⟩, ⟨_, Tryz.func129, comp129, okf129⟩, ⟨_, Tryz.func130, comp130, okf130⟩, ⟨_, Tryz.func131, comp131, okf131⟩, ⟨_, Tryz.func132, comp132, okf132⟩, ⟨_, Tryz.func133, comp133, okf133⟩, ⟨_, Tryz.func134, comp134, okf134⟩, ⟨_, Tryz.func135, comp135, okf135⟩, ⟨_, Tryz.func136, comp136, okf136⟩, ⟨_, Tryz.func137, comp137, okf137⟩, ⟨_, Tryz.func138, comp138, okf138⟩, ⟨_, Tryz.func139, comp139, okf139⟩, ⟨_, Tryz.func140, comp140, okf140⟩, ⟨_, Tryz.func141, comp141, okf141⟩, ⟨_, Tryz.func142, comp142, okf142⟩, ⟨_, Tryz.func143, comp143, okf143⟩, ⟨_, Tryz.func144, comp144, okf144⟩, ⟨_, Tryz.func152, comp152, okf152⟩, ⟨_, Tryz.func153, comp153, okf153⟩, ⟨_, Tryz.func172, comp172, okf172⟩, ⟨_, Tryz.func173, comp173, okf173⟩, ⟨_, Tryz.func174, comp174, okf174⟩, ⟨_, Tryz.func175, comp175, okf175⟩, ⟨_, Tryz.func176, comp176, okf176⟩, ⟨_, Tryz.func177, comp177, okf177⟩, ⟨_, Tryz.func178, comp178, okf178⟩, ⟨_, Tryz.func179, comp179, okf179⟩, ⟨_, Tryz.func180, comp180, okf180⟩, ⟨_, Tryz.func181, comp181, okf181⟩, ⟨_, Tryz.func182, comp182, okf182⟩, ⟨_, Tryz.func183, comp183, okf183⟩, ⟨_, Tryz.func205, comp205, okf205⟩, ⟨_, Tryz.func206, comp206, okf206⟩, ⟨_, Tryz.func207, comp207, okf207⟩, ⟨_, Tryz.func208, comp208, okf208⟩, ⟨_, Tryz.func209, comp209, okf209⟩, ⟨_, Tryz.func210, comp210, okf210⟩, ⟨_, Tryz.func211, comp211, okf211⟩, ⟨_, Tryz.func212, comp212, okf212⟩, ⟨_, Tryz.func226, comp226, okf226⟩, ⟨_, Tryz.func227, comp227, okf227⟩, ⟨_, Tryz.func228, comp228, okf228⟩, ⟨_, Tryz.func229, comp229, okf229⟩, ⟨_, Tryz.func244, comp244, okf244⟩, ⟨_, Tryz.func245, comp245, okf245⟩, ⟨_, Tryz.func246, comp246, okf246⟩, ⟨_, Tryz.func247, comp247, okf247⟩, ⟨_, Tryz.func248, comp248, okf248⟩, ⟨_, Tryz.func249, comp249, okf249⟩, ⟨_, Tryz.func250, comp250, okf250⟩, ⟨_, Tryz.func269, comp269, okf269⟩, ⟨_, Tryz.func270, comp270, okf270⟩, ⟨_, Tryz.func271, comp271, okf271⟩, ⟨_, Tryz.func272, comp272, okf272⟩, ⟨_, Tryz.func273, comp273, okf273⟩, ⟨_, Tryz.func274, comp274, okf274⟩, ⟨_, Tryz.func275, comp275, okf275⟩, ⟨_, Tryz.func288, comp288, okf288⟩, ⟨_, Tryz.func289, comp289, okf289⟩, ⟨_, Tryz.func290, comp290, okf290⟩, ⟨_, Tryz.func302, comp302, okf302⟩, fun _ h => by cases h⟩
end Go.Proofs.YtdlpbedneamebaaGreatDoor
