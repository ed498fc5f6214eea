/-
  The code of the functions that the laws reach, as the evaluator runs it: printed by a program of ours off the translation, and held against it by the kernel.
-/
import Derived.Test.YtmhbkofbbkogeaaGreatProg
import Derived.Test.YtmhbkofbbkogeaaGreatVmQ
import Derived.Test.YtmhbkofbbkogeaaGreatVmO
import Derived.KernelRfl
namespace Go.Proofs.YtmhbkofbbkogeaaGreat
open Go.VM
/-- The library functions that write into a slice of the call own. -/
instance glob : Glob := ⟨[], [(92, ⟨3, false, false, revRun, 0⟩)]⟩
-- 3: corebank/corebanklaw49.ReportBalances
def body3_1 : C :=
 (.seq (.seq (.q [(32, (.op (.bin .lss) [(.sl 8), (.op .len [(.op (.ld 1 false) [(.op (.fa 2 1) [(.sl 3)])])])]))])
 (.cond (.sl 32) .skip (.exit 0 [2, 3, 4, 7])))
 (.seq (.blk 1 (.seq (.q [(41, (.op (.bin .eql) [(.op (.ld 1 false) [(.op (.fa 1 1) [(.op (.ix 4) [(.op (.ld 1 false) [(.op (.fa 2 1) [(.sl 3)])]), (.sl 8)])])]), (.k (.i .i64 0))]))])
 (.cond (.sl 41) (.d [.fa 42 2 1 (.t 7), .q 43 (.ld 1 false) [(.t 42)], .fa 44 2 1 (.t 3), .q 45 (.ld 1 false) [(.t 44)], .mv 46 (.t 8), .ix 47 4 (.t 45) (.t 46), .fa 48 0 1 (.t 47), .q 49 (.ld 1 false) [(.t 48)], .bsl 50 3 1 [(.t 49)], .app 51 3 1 8 (.t 43) (.t 50), .fa 52 2 1 (.t 7), .sto 1 (.t 52) (.t 51)] [[], [0], [], [2], [], [2, 3, 4], [2, 3, 4, 5], [2, 3, 4, 5, 6], [2, 3, 4, 5, 6, 7], [0, 1, 2, 3, 4, 5, 6, 7, 8], [0, 1, 2, 3, 4, 5, 6, 7, 8, 9], [0, 1, 2, 3, 4, 5, 6, 7, 8, 9, 10]] [42, 43, 44, 45, 46, 47, 48, 49, 50, 51, 52]) .skip)))
 (.q [(8, (.op (.bin .add) [(.sl 8), (.k (.i .i64 1))]))])))
def body3_2 : C :=
 (.seq (.seq (.q [(66, (.op (.bin .lss) [(.sl 11), (.op .len [(.sl 9)])]))])
 (.cond (.sl 66) .skip (.exit 2 [2, 3, 4])))
 (.seq (.blk 3 (.seq (.q [(74, (.op (.bin .neq) [(.op (.ld 1 false) [(.op (.fa 2 1) [(.op (.ix 3) [(.sl 9), (.sl 11)])])]), (.k (.i .i64 0))]))])
 (.cond (.sl 74) (.seq (.q [(6, (.k (.b false)))])
 (.ret [6])) .skip)))
 (.q [(11, (.op (.bin .add) [(.sl 11), (.k (.i .i64 1))]))])))
def body3_3 : C :=
 (.seq (.seq (.q [(96, (.op (.bin .lss) [(.sl 16), (.op .len [(.op (.ld 1 false) [(.op (.fa 2 1) [(.sl 4)])])])]))])
 (.cond (.sl 96) .skip (.exit 6 [2, 3, 4, 12, 14, 15])))
 (.seq (.blk 7 (.seq (.d [.q 100 (.ld 22 true) [(.t 3)], .fa 101 0 1 (.t 4), .q 102 (.ld 1 false) [(.t 101)], .fa 103 1 1 (.t 4), .q 104 (.ld 1 false) [(.t 103)], .fa 105 2 1 (.t 4), .q 106 (.ld 1 false) [(.t 105)], .mv 107 (.t 16), .mv 108 (.t 16), .q 109 (.bin .add) [(.t 108), (.c (.i .i64 1))], .slc 110 1 true true [(.t 106), (.t 107), (.t 109)], .bld 111 [(.s []), (.i .i64 0), (.l [])] [(0, 1), (1, 1), (2, 1)] [(.t 102), (.t 104), (.t 110)], .bsl 112 36 3 [(.t 111)], .mv 113 (.t 2), .call (some 114) 6 [(.t 100), (.t 112), (.t 113)], .mv 99 (.t 114), .ext 115 0 99, .ext 116 1 99, .as 17 (.t 115), .as 18 (.t 116)] [[], [], [1], [], [3], [], [5], [], [], [8], [5, 6, 7, 8, 9], [1, 2, 3, 4, 5, 6, 7, 8, 9, 10], [1, 2, 3, 4, 5, 6, 7, 8, 9, 10, 11], [], [0, 1, 2, 3, 4, 5, 6, 7, 8, 9, 10, 11, 12, 13], [0, 1, 2, 3, 4, 5, 6, 7, 8, 9, 10, 11, 12, 13, 14], [0, 1, 2, 3, 4, 5, 6, 7, 8, 9, 10, 11, 12, 13, 14, 15], [0, 1, 2, 3, 4, 5, 6, 7, 8, 9, 10, 11, 12, 13, 14, 15], [0, 1, 2, 3, 4, 5, 6, 7, 8, 9, 10, 11, 12, 13, 14, 15, 16], [0, 1, 2, 3, 4, 5, 6, 7, 8, 9, 10, 11, 12, 13, 14, 15, 16, 17, 18]] [100, 101, 102, 103, 104, 105, 106, 107, 108, 109, 110, 111, 112, 113, 114, 99, 115, 116])
 (.seq (.seq (.q [(118, (.op (.bin .eql) [(.sl 18), (.k (.i .i64 6))]))])
 (.cond (.sl 118) (.seq (.q [(6, (.op (.call false 7) []))])
 (.ret [6])) .skip))
 (.seq (.seq (.q [(128, (.ite (.op (.bin .neq) [(.sl 18), (.k (.i .i64 0))]) (.k (.b true)) (.op (.bin .neq) [(.op .len [(.sl 17)]), (.op .len [(.sl 12)])])))])
 (.cond (.sl 128) (.seq (.q [(6, (.k (.b false)))])
 (.ret [6])) .skip))
 (.q [(15, (.op (.bin .add) [(.sl 15), (.op (.ld 1 false) [(.op (.fa 2 1) [(.op (.ix 3) [(.sl 17), (.sl 14)])])])]))])))))
 (.q [(16, (.op (.bin .add) [(.sl 16), (.k (.i .i64 1))]))])))
def body3_4 : C :=
 (.seq (.seq (.q [(89, (.op (.bin .lss) [(.sl 14), (.op .len [(.sl 12)])]))])
 (.cond (.sl 89) .skip (.exit 4 [])))
 (.seq (.blk 5 (.seq (.q [(15, (.k (.i .i64 0)))])
 (.seq (.seq (.q [(16, (.k (.i .i64 0)))])
 (.blk 6 (.loop [2, 3, 4, 12, 14, 15, 16] body3_3)))
 (.seq (.q [(142, (.op (.bin .neq) [(.sl 15), (.op (.ld 1 false) [(.op (.fa 2 1) [(.op (.ix 3) [(.sl 12), (.sl 14)])])])]))])
 (.cond (.sl 142) (.seq (.q [(6, (.k (.b false)))])
 (.ret [6])) .skip)))))
 (.q [(14, (.op (.bin .add) [(.sl 14), (.k (.i .i64 1))]))])))
def code3 : FCode := ⟨3, [.tmp 6],
 (.seq (.s [.box 3 (.t 0), .box 4 (.t 1), .as 6 (.c (.b false))] [])
 (.seq (.seq (.q [(26, (.ite (.op (.un .not) [(.op (.call false 4) [(.op (.ld 22 true) [(.sl 3)])])]) (.k (.b true)) (.op (.call false 5) [(.op (.bsl 3) [(.op (.ld 3 true) [(.sl 4)])])])))])
 (.cond (.sl 26) (.seq (.q [(6, (.k (.b true)))])
 (.ret [6])) .skip))
 (.seq (.s [.bld 27 [(.s []), (.i .i64 0), (.l [])] [(0, 1), (1, 1)] [(.c (.s [97, 108, 108])), (.c (.i .i64 1))], .alo 7 [(.s []), (.i .i64 0), (.l [])], .sto 3 (.t 7) (.t 27)] [27])
 (.seq (.seq (.q [(8, (.k (.i .i64 0)))])
 (.blk 0 (.loop [2, 3, 4, 7, 8] body3_1)))
 (.seq (.s [.q 54 (.ld 22 true) [(.t 3)], .q 55 (.ld 3 true) [(.t 7)], .bsl 56 36 3 [(.t 55)], .mv 57 (.t 2), .call (some 58) 6 [(.t 54), (.t 56), (.t 57)], .mv 53 (.t 58), .ext 59 0 53, .ext 60 1 53, .as 9 (.t 59), .as 10 (.t 60)] [54, 55, 56, 57, 58, 53, 59, 60])
 (.seq (.seq (.q [(62, (.op (.bin .neq) [(.sl 10), (.k (.i .i64 0))]))])
 (.cond (.sl 62) (.seq (.q [(6, (.k (.b false)))])
 (.ret [6])) .skip))
 (.seq (.seq (.q [(11, (.k (.i .i64 0)))])
 (.blk 2 (.loop [2, 3, 4, 9, 11] body3_2)))
 (.seq (.s [.q 76 (.ld 22 true) [(.t 3)], .q 77 (.ld 3 true) [(.t 4)], .bsl 78 36 3 [(.t 77)], .mv 79 (.t 2), .call (some 80) 6 [(.t 76), (.t 78), (.t 79)], .mv 75 (.t 80), .ext 81 0 75, .ext 82 1 75, .as 12 (.t 81), .as 13 (.t 82)] [76, 77, 78, 79, 80, 75, 81, 82])
 (.seq (.seq (.q [(84, (.op (.bin .neq) [(.sl 13), (.k (.i .i64 0))]))])
 (.cond (.sl 84) (.seq (.q [(6, (.op (.call false 7) []))])
 (.ret [6])) .skip))
 (.seq (.seq (.q [(14, (.k (.i .i64 0)))])
 (.blk 4 (.loop [2, 3, 4, 12, 14] body3_4)))
 (.seq (.q [(6, (.op (.call false 7) []))])
 (.ret [6]))))))))))))⟩
theorem comp3 : compile Tryz.prog Tryz.f3 = some code3 := by kernel_rfl
theorem okf3 : okFn Tryz.prog 3 = true := by kernel_rfl
-- 4: corebank/corebankref25.Sound
def body4_1 : C :=
 (.seq (.seq (.q [(31, (.op (.bin .lss) [(.sl 3), (.op .len [(.op (.ld 1 false) [(.op (.fa 1 1) [(.sl 1)])])])]))])
 (.cond (.sl 31) .skip (.exit 0 [1])))
 (.seq (.blk 1 (.seq (.q [(60, (.ite (.op (.bin .neq) [(.op (.call true 12) [(.op (.ld 3 true) [(.op (.ix 3) [(.op (.ld 1 false) [(.op (.fa 1 1) [(.sl 1)])]), (.sl 3)])])]), (.k (.i .i64 0))]) (.k (.b true)) (.ite (.op (.bin .gtr) [(.sl 3), (.k (.i .i64 0))]) (.op (.bin .leq) [(.op (.ld 1 false) [(.op (.fa 0 1) [(.op (.ix 3) [(.op (.ld 1 false) [(.op (.fa 1 1) [(.sl 1)])]), (.sl 3)])])]), (.op (.ld 1 false) [(.op (.fa 0 1) [(.op (.ix 3) [(.op (.ld 1 false) [(.op (.fa 1 1) [(.sl 1)])]), (.op (.bin .sub) [(.sl 3), (.k (.i .i64 1))])])])])]) (.k (.b false)))))])
 (.cond (.sl 60) (.seq (.q [(2, (.k (.b false)))])
 (.ret [2])) .skip)))
 (.q [(3, (.op (.bin .add) [(.sl 3), (.k (.i .i64 1))]))])))
def body4_2 : C :=
 (.seq (.seq (.q [(65, (.op (.bin .lss) [(.sl 4), (.op .len [(.op (.ld 1 false) [(.op (.fa 17 1) [(.sl 1)])])])]))])
 (.cond (.sl 65) .skip (.exit 2 [1])))
 (.seq (.blk 3 (.seq (.q [(78, (.op (.bin .neq) [(.op (.call true 13) [(.op (.ld 19 true) [(.op (.ix 19) [(.op (.ld 1 false) [(.op (.fa 17 1) [(.sl 1)])]), (.sl 4)])]), (.op (.ld 1 false) [(.op (.fa 0 1) [(.sl 1)])]), (.op (.ld 1 false) [(.op (.fa 1 1) [(.sl 1)])])]), (.k (.i .i64 0))]))])
 (.cond (.sl 78) (.seq (.q [(2, (.k (.b false)))])
 (.ret [2])) .skip)))
 (.q [(4, (.op (.bin .add) [(.sl 4), (.k (.i .i64 1))]))])))
def code4 : FCode := ⟨1, [.tmp 2],
 (.seq (.s [.box 1 (.t 0), .as 2 (.c (.b false))] [])
 (.seq (.seq (.q [(26, (.ite (.ite (.ite (.op (.call false 8) [(.op (.ld 22 true) [(.sl 1)])]) (.k (.b true)) (.op (.bin .neq) [(.op (.call false 9) [(.op (.ld 1 false) [(.op (.fa 0 1) [(.sl 1)])])]), (.k (.i .i64 0))])) (.k (.b true)) (.op (.bin .neq) [(.op (.call false 10) [(.op (.ld 1 false) [(.op (.fa 2 1) [(.sl 1)])]), (.op (.ld 14 true) [(.op (.fa 3 14) [(.sl 1)])])]), (.k (.i .i64 0))])) (.k (.b true)) (.op (.bin .neq) [(.op (.call false 11) [(.op (.ld 1 false) [(.op (.fa 17 1) [(.sl 1)])])]), (.k (.i .i64 0))])))])
 (.cond (.sl 26) (.seq (.q [(2, (.k (.b false)))])
 (.ret [2])) .skip))
 (.seq (.seq (.q [(3, (.k (.i .i64 0)))])
 (.blk 0 (.loop [1, 3] body4_1)))
 (.seq (.seq (.q [(4, (.k (.i .i64 0)))])
 (.blk 2 (.loop [1, 4] body4_2)))
 (.seq (.q [(2, (.ite (.ite (.ite (.op (.bin .eql) [(.op (.call false 14) [(.op (.ld 22 true) [(.sl 1)])]), (.k (.i .i64 0))]) (.op (.call false 15) [(.op (.ld 22 true) [(.sl 1)])]) (.k (.b false))) (.op (.bin .eql) [(.op (.call false 16) [(.op (.ld 1 false) [(.op (.fa 20 1) [(.sl 1)])])]), (.k (.i .i64 0))]) (.k (.b false))) (.op (.bin .eql) [(.op (.call false 17) [(.op (.ld 1 false) [(.op (.fa 21 1) [(.sl 1)])])]), (.k (.i .i64 0))]) (.k (.b false))))])
 (.ret [2]))))))⟩
theorem comp4 : compile Tryz.prog Tryz.f4 = some code4 := by kernel_rfl
theorem okf4 : okFn Tryz.prog 4 = true := by kernel_rfl
-- 5: corebank/corebankref49.Great
def body5_1 : C :=
 (.seq (.seq (.q [(10, (.op (.bin .lss) [(.sl 3), (.op .len [(.sl 0)])]))])
 (.cond (.sl 10) .skip (.exit 0 [])))
 (.seq (.blk 1 (.seq (.q [(28, (.ite (.op (.bin .gtr) [(.op .len [(.op (.ld 1 false) [(.op (.fa 2 1) [(.op (.ix 3) [(.sl 0), (.sl 3)])])])]), (.k (.i .i64 20))]) (.k (.b true)) (.op (.bin .gtr) [(.op .slen [(.op (.ld 1 false) [(.op (.fa 0 1) [(.op (.ix 3) [(.sl 0), (.sl 3)])])])]), (.k (.i .i64 200))])))])
 (.cond (.sl 28) (.seq (.q [(2, (.k (.b true)))])
 (.ret [2])) .skip)))
 (.q [(3, (.op (.bin .add) [(.sl 3), (.k (.i .i64 1))]))])))
def code5 : FCode := ⟨1, [.tmp 2],
 (.seq (.q [(2, (.k (.b false)))])
 (.seq (.seq (.q [(6, (.op (.bin .gtr) [(.op .len [(.sl 0)]), (.k (.i .i64 100))]))])
 (.cond (.sl 6) (.seq (.q [(2, (.k (.b true)))])
 (.ret [2])) .skip))
 (.seq (.seq (.q [(3, (.k (.i .i64 0)))])
 (.blk 0 (.loop [0, 3] body5_1)))
 (.seq (.q [(2, (.k (.b false)))])
 (.ret [2])))))⟩
theorem comp5 : compile Tryz.prog Tryz.f5 = some code5 := by kernel_rfl
theorem okf5 : okFn Tryz.prog 5 = true := by kernel_rfl
-- 7: corebank/corebanklaw49.Live
def code7 : FCode := ⟨0, [.tmp 0],
 (.seq (.q [(0, (.k (.b false)))])
 (.seq (.s [.bsl 10 3 1 [(.c (.i .i64 2))], .bld 11 [(.s []), (.i .i64 0), (.l [])] [(0, 1), (1, 1), (2, 1)] [(.c (.s [100, 101, 98, 116, 115])), (.c (.i .i64 (-1))), (.t 10)], .alo 1 [(.s []), (.i .i64 0), (.l [])], .sto 3 (.t 1) (.t 11)] [10, 11])
 (.seq (.d [.call (some 13) 21 [], .q 14 (.ld 3 true) [(.t 1)], .bsl 15 3 1 [(.c (.i .i64 1)), (.c (.i .i64 2))], .bld 16 [(.s []), (.i .i64 0), (.l [])] [(0, 1), (1, 1), (2, 1)] [(.c (.s [97, 108, 108])), (.c (.i .i64 1)), (.t 15)], .bsl 17 36 3 [(.t 14), (.t 16)], .call (some 18) 6 [(.t 13), (.t 17), (.c (.i .i64 6))], .mv 12 (.t 18), .ext 19 0 12, .ext 20 1 12, .as 2 (.t 19), .as 3 (.t 20)] [[], [], [], [2], [1, 2, 3], [0, 1, 2, 3, 4], [0, 1, 2, 3, 4, 5], [0, 1, 2, 3, 4, 5, 6], [0, 1, 2, 3, 4, 5, 6], [0, 1, 2, 3, 4, 5, 6, 7], [0, 1, 2, 3, 4, 5, 6, 7, 8, 9]] [13, 14, 15, 16, 17, 18, 12, 19, 20])
 (.seq (.d [.call (some 22) 21 [], .q 23 (.ld 3 true) [(.t 1)], .bsl 24 36 3 [(.t 23)], .call (some 25) 6 [(.t 22), (.t 24), (.c (.i .i64 5))], .mv 21 (.t 25), .ext 26 0 21, .ext 27 1 21, .as 4 (.t 26), .as 5 (.t 27)] [[], [], [1], [0, 1, 2], [0, 1, 2, 3], [0, 1, 2, 3, 4], [0, 1, 2, 3, 4], [0, 1, 2, 3, 4, 5], [0, 1, 2, 3, 4, 5, 6, 7]] [22, 23, 24, 25, 21, 26, 27])
 (.seq (.d [.call (some 29) 21 [], .q 30 (.ld 3 true) [(.t 1)], .call (some 31) 22 [(.t 29), (.t 30), (.c (.s [69, 85, 82])), (.c (.i .i64 6))], .mv 28 (.t 31), .ext 32 0 28, .ext 33 1 28, .as 6 (.t 32), .as 7 (.t 33)] [[], [], [0, 1], [0, 1, 2], [0, 1, 2, 3], [0, 1, 2, 3], [0, 1, 2, 3, 4], [0, 1, 2, 3, 4, 5, 6]] [29, 30, 31, 28, 32, 33])
 (.seq (.d [.call (some 35) 21 [], .q 36 (.ld 3 true) [(.t 1)], .call (some 37) 22 [(.t 35), (.t 36), (.c (.s [85, 83, 68])), (.c (.i .i64 6))], .mv 34 (.t 37), .ext 38 0 34, .ext 39 1 34, .as 8 (.t 38), .as 9 (.t 39)] [[], [], [0, 1], [0, 1, 2], [0, 1, 2, 3], [0, 1, 2, 3], [0, 1, 2, 3, 4], [0, 1, 2, 3, 4, 5, 6]] [35, 36, 37, 34, 38, 39, 8])
 (.seq (.q [(0, (.ite (.ite (.ite (.ite (.ite (.ite (.ite (.ite (.ite (.ite (.ite (.ite (.op (.bin .eql) [(.sl 3), (.k (.i .i64 0))]) (.op (.call false 23) [(.sl 2), (.op (.bsl 3) [(.op (.bld [(.s []), (.s []), (.i .i64 0)] [(0, 1), (1, 1), (2, 1)]) [(.k (.s [100, 101, 98, 116, 115])), (.k (.s [69, 85, 82])), (.k (.i .i64 500))]), (.op (.bld [(.s []), (.s []), (.i .i64 0)] [(0, 1), (1, 1)]) [(.k (.s [97, 108, 108])), (.k (.s [69, 85, 82]))])])]) (.k (.b false))) (.op (.bin .eql) [(.sl 5), (.k (.i .i64 0))]) (.k (.b false))) (.op (.bin .eql) [(.op .len [(.sl 4)]), (.k (.i .i64 1))]) (.k (.b false))) (.op (.bin .eql) [(.op (.ld 1 false) [(.op (.fa 2 1) [(.op (.ix 3) [(.sl 4), (.k (.i .i64 0))])])]), (.k (.i .i64 0))]) (.k (.b false))) (.op (.bin .eql) [(.sl 7), (.k (.i .i64 0))]) (.k (.b false))) (.op (.call false 24) [(.sl 6), (.op (.bsl 1) [(.k (.i .i64 1))])]) (.k (.b false))) (.op (.bin .eql) [(.sl 9), (.k (.i .i64 14))]) (.k (.b false))) (.op (.bin .eql) [(.op (.call false 25) [(.op (.call false 21) []), (.op (.ld 3 true) [(.sl 1)]), (.k (.s [69, 85, 82])), (.k (.i .i64 1))]), (.k (.i .i64 500))]) (.k (.b false))) (.op (.bin .eql) [(.op (.call false 26) [(.op (.call false 21) []), (.k (.i .i64 1000))]), (.k (.i .i64 21))]) (.k (.b false))) (.op (.bin .eql) [(.op (.call false 26) [(.op (.call false 21) []), (.k (.i .i64 1001))]), (.k (.i .i64 0))]) (.k (.b false))) (.op (.bin .eql) [(.op (.call false 26) [(.op (.call false 21) []), (.k (.i .i64 11))]), (.k (.i .i64 11))]) (.k (.b false))) (.op (.bin .eql) [(.op (.call false 18) [(.op (.call false 21) []), (.op (.bsl 3) [(.op (.bld [(.s []), (.i .i64 0), (.l [])] [(0, 1), (1, 1), (2, 1)]) [(.k (.s [120])), (.k (.i .i64 1)), (.op (.bsl 1) [(.k (.i .i64 1)), (.k (.i .i64 11))])])])]), (.k (.i .i64 12))]) (.k (.b false))))])
 (.ret [0]))))))))⟩
theorem comp7 : compile Tryz.prog Tryz.f7 = some code7 := by kernel_rfl
theorem okf7 : okFn Tryz.prog 7 = true := by kernel_rfl
-- 8: corebank/corebankref25.Great
def body8_1 : C :=
 (.seq (.seq (.q [(55, (.op (.bin .lss) [(.sl 3), (.op .len [(.op (.ld 1 false) [(.op (.fa 17 1) [(.sl 1)])])])]))])
 (.cond (.sl 55) .skip (.exit 0 [1])))
 (.seq (.blk 1 (.seq (.q [(63, (.op (.call false 28) [(.op (.ld 19 true) [(.op (.ix 19) [(.op (.ld 1 false) [(.op (.fa 17 1) [(.sl 1)])]), (.sl 3)])])]))])
 (.cond (.sl 63) (.seq (.q [(2, (.k (.b true)))])
 (.ret [2])) .skip)))
 (.q [(3, (.op (.bin .add) [(.sl 3), (.k (.i .i64 1))]))])))
def body8_2 : C :=
 (.seq (.seq (.q [(68, (.op (.bin .lss) [(.sl 4), (.op .len [(.op (.ld 1 false) [(.op (.fa 19 1) [(.sl 1)])])])]))])
 (.cond (.sl 68) .skip (.exit 2 [1])))
 (.seq (.blk 3 (.seq (.q [(76, (.op (.call false 29) [(.op (.ld 10 true) [(.op (.ix 10) [(.op (.ld 1 false) [(.op (.fa 19 1) [(.sl 1)])]), (.sl 4)])])]))])
 (.cond (.sl 76) (.seq (.q [(2, (.k (.b true)))])
 (.ret [2])) .skip)))
 (.q [(4, (.op (.bin .add) [(.sl 4), (.k (.i .i64 1))]))])))
def body8_3 : C :=
 (.seq (.seq (.q [(81, (.op (.bin .lss) [(.sl 5), (.op .len [(.op (.ld 1 false) [(.op (.fa 1 1) [(.sl 1)])])])]))])
 (.cond (.sl 81) .skip (.exit 4 [])))
 (.seq (.blk 5 (.seq (.q [(101, (.ite (.op (.bin .gtr) [(.op .len [(.op (.ld 1 false) [(.op (.fa 2 1) [(.op (.ix 3) [(.op (.ld 1 false) [(.op (.fa 1 1) [(.sl 1)])]), (.sl 5)])])])]), (.k (.i .i64 400))]) (.k (.b true)) (.op (.bin .gtr) [(.op .len [(.op (.ld 1 false) [(.op (.fa 1 1) [(.op (.ix 3) [(.op (.ld 1 false) [(.op (.fa 1 1) [(.sl 1)])]), (.sl 5)])])])]), (.k (.i .i64 20))])))])
 (.cond (.sl 101) (.seq (.q [(2, (.k (.b true)))])
 (.ret [2])) .skip)))
 (.q [(5, (.op (.bin .add) [(.sl 5), (.k (.i .i64 1))]))])))
def code8 : FCode := ⟨1, [.tmp 2],
 (.seq (.s [.box 1 (.t 0), .as 2 (.c (.b false))] [])
 (.seq (.seq (.q [(50, (.ite (.ite (.ite (.ite (.ite (.ite (.ite (.op (.bin .gtr) [(.op .len [(.op (.ld 1 false) [(.op (.fa 0 1) [(.sl 1)])])]), (.k (.i .i64 20))]) (.k (.b true)) (.op (.bin .gtr) [(.op .len [(.op (.ld 1 false) [(.op (.fa 1 1) [(.sl 1)])])]), (.k (.i .i64 10))])) (.k (.b true)) (.op (.bin .gtr) [(.op .len [(.op (.ld 1 false) [(.op (.fa 2 1) [(.sl 1)])])]), (.k (.i .i64 60))])) (.k (.b true)) (.op (.bin .gtr) [(.op .len [(.op (.ld 1 false) [(.op (.fa 17 1) [(.sl 1)])])]), (.k (.i .i64 20))])) (.k (.b true)) (.op (.bin .gtr) [(.op .len [(.op (.ld 1 false) [(.op (.fa 18 1) [(.sl 1)])])]), (.k (.i .i64 40))])) (.k (.b true)) (.op (.bin .gtr) [(.op .len [(.op (.ld 1 false) [(.op (.fa 19 1) [(.sl 1)])])]), (.k (.i .i64 150))])) (.k (.b true)) (.op (.call false 27) [(.op (.ld 1 false) [(.op (.fa 20 1) [(.sl 1)])])])) (.k (.b true)) (.op (.bin .gtr) [(.op .len [(.op (.ld 1 false) [(.op (.fa 21 1) [(.sl 1)])])]), (.k (.i .i64 100))])))])
 (.cond (.sl 50) (.seq (.q [(2, (.k (.b true)))])
 (.ret [2])) .skip))
 (.seq (.seq (.q [(3, (.k (.i .i64 0)))])
 (.blk 0 (.loop [1, 3] body8_1)))
 (.seq (.seq (.q [(4, (.k (.i .i64 0)))])
 (.blk 2 (.loop [1, 4] body8_2)))
 (.seq (.seq (.q [(5, (.k (.i .i64 0)))])
 (.blk 4 (.loop [1, 5] body8_3)))
 (.seq (.q [(2, (.k (.b false)))])
 (.ret [2])))))))⟩
theorem comp8 : compile Tryz.prog Tryz.f8 = some code8 := by kernel_rfl
theorem okf8 : okFn Tryz.prog 8 = true := by kernel_rfl
-- 9: corebank/corebankref03.Check
def body9_1 : C :=
 (.seq (.seq (.q [(15, (.op (.bin .lss) [(.sl 3), (.op .len [(.sl 0)])]))])
 (.cond (.sl 15) .skip (.exit 0 [])))
 (.seq (.blk 1 (.seq (.seq (.q [(24, (.op (.un .not) [(.op (.call false 30) [(.op (.ld 1 false) [(.op (.fa 0 1) [(.op (.ix 2) [(.sl 0), (.sl 3)])])])])]))])
 (.cond (.sl 24) (.seq (.q [(2, (.k (.i .i64 4)))])
 (.ret [2])) .skip))
 (.seq (.seq (.q [(38, (.ite (.op (.bin .lss) [(.op (.ld 1 false) [(.op (.fa 1 1) [(.op (.ix 2) [(.sl 0), (.sl 3)])])]), (.k (.i .i64 0))]) (.k (.b true)) (.op (.bin .gtr) [(.op (.ld 1 false) [(.op (.fa 1 1) [(.op (.ix 2) [(.sl 0), (.sl 3)])])]), (.k (.i .i64 4))])))])
 (.cond (.sl 38) (.seq (.q [(2, (.k (.i .i64 1)))])
 (.ret [2])) .skip))
 (.seq (.q [(54, (.ite (.op (.bin .gtr) [(.sl 3), (.k (.i .i64 0))]) (.op (.bin .leq) [(.op (.ld 1 false) [(.op (.fa 0 1) [(.op (.ix 2) [(.sl 0), (.sl 3)])])]), (.op (.ld 1 false) [(.op (.fa 0 1) [(.op (.ix 2) [(.sl 0), (.op (.bin .sub) [(.sl 3), (.k (.i .i64 1))])])])])]) (.k (.b false))))])
 (.cond (.sl 54) (.seq (.q [(2, (.k (.i .i64 10)))])
 (.ret [2])) .skip)))))
 (.q [(3, (.op (.bin .add) [(.sl 3), (.k (.i .i64 1))]))])))
def code9 : FCode := ⟨1, [.tmp 2],
 (.seq (.q [(2, (.k (.i .i64 0)))])
 (.seq (.seq (.q [(11, (.ite (.op (.bin .lss) [(.op .len [(.sl 0)]), (.k (.i .i64 1))]) (.k (.b true)) (.op (.bin .gtr) [(.op .len [(.sl 0)]), (.k (.i .i64 8))])))])
 (.cond (.sl 11) (.seq (.q [(2, (.k (.i .i64 5)))])
 (.ret [2])) .skip))
 (.seq (.seq (.q [(3, (.k (.i .i64 0)))])
 (.blk 0 (.loop [0, 3] body9_1)))
 (.seq (.q [(2, (.k (.i .i64 0)))])
 (.ret [2])))))⟩
theorem comp9 : compile Tryz.prog Tryz.f9 = some code9 := by kernel_rfl
theorem okf9 : okFn Tryz.prog 9 = true := by kernel_rfl
-- 10: corebank/corebankref18.Check
def body10_1 : C :=
 (.seq (.seq (.q [(24, (.op (.bin .lss) [(.sl 5), (.op .len [(.sl 0)])]))])
 (.cond (.sl 24) .skip (.exit 0 [0, 3])))
 (.seq (.blk 1 (.seq (.s [.mv 27 (.t 0), .mv 28 (.t 5), .ix 29 4 (.t 27) (.t 28), .q 30 (.ld 4 true) [(.t 29)], .alo 6 [(.i .i64 0), (.i .i64 0), (.i .i64 0), (.s [])], .sto 4 (.t 6) (.t 30)] [27, 28, 29, 30])
 (.seq (.seq (.q [(48, (.ite (.ite (.ite (.op (.bin .lss) [(.op (.ld 1 false) [(.op (.fa 0 1) [(.sl 6)])]), (.k (.i .i64 1))]) (.k (.b true)) (.op (.bin .gtr) [(.op (.ld 1 false) [(.op (.fa 0 1) [(.sl 6)])]), (.k (.i .i64 999))])) (.k (.b true)) (.op (.bin .lss) [(.op (.ld 1 false) [(.op (.fa 2 1) [(.sl 6)])]), (.k (.i .i64 1))])) (.k (.b true)) (.op (.bin .gtr) [(.op (.ld 1 false) [(.op (.fa 2 1) [(.sl 6)])]), (.k (.i .i64 5))])))])
 (.cond (.sl 48) (.seq (.q [(4, (.k (.i .i64 1)))])
 (.ret [4])) .skip))
 (.seq (.seq (.q [(61, (.ite (.op (.bin .gtr) [(.sl 5), (.k (.i .i64 0))]) (.op (.bin .leq) [(.op (.ld 1 false) [(.op (.fa 0 1) [(.sl 6)])]), (.op (.ld 1 false) [(.op (.fa 0 1) [(.op (.ix 4) [(.sl 0), (.op (.bin .sub) [(.sl 5), (.k (.i .i64 1))])])])])]) (.k (.b false))))])
 (.cond (.sl 61) (.seq (.q [(4, (.k (.i .i64 10)))])
 (.ret [4])) .skip))
 (.seq (.seq (.q [(65, (.op (.un .not) [(.op (.call false 31) [(.op (.ld 1 false) [(.op (.fa 3 1) [(.sl 6)])])])]))])
 (.cond (.sl 65) (.seq (.q [(4, (.k (.i .i64 4)))])
 (.ret [4])) .skip))
 (.seq (.seq (.q [(68, (.op (.bin .eql) [(.op (.ld 1 false) [(.op (.fa 1 1) [(.sl 6)])]), (.k (.i .i64 0))]))])
 (.cond (.sl 68) (.exit 1 [0, 3, 5]) .skip))
 (.seq (.d [.mv 70 (.t 0), .mv 71 (.t 5), .slc 72 4 false true [(.t 70), (.t 71)], .fa 73 1 1 (.t 6), .q 74 (.ld 1 false) [(.t 73)], .call (some 75) 32 [(.t 72), (.t 74)], .mv 69 (.t 75), .ext 76 0 69, .ext 77 1 69, .alo 7 [(.i .i64 0), (.i .i64 0), (.i .i64 0), (.s [])], .sto 4 (.t 7) (.t 76), .as 8 (.t 77)] [[], [], [0, 1], [], [3], [0, 1, 2, 3, 4], [0, 1, 2, 3, 4, 5], [0, 1, 2, 3, 4, 5, 6], [0, 1, 2, 3, 4, 5, 6], [], [0, 1, 2, 3, 4, 5, 6, 7, 9], [0, 1, 2, 3, 4, 5, 6, 7, 8, 9, 10]] [70, 71, 72, 73, 74, 75, 69, 76, 77])
 (.seq (.seq (.q [(79, (.op (.un .not) [(.sl 8)]))])
 (.cond (.sl 79) (.seq (.q [(4, (.k (.i .i64 11)))])
 (.ret [4])) .skip))
 (.seq (.q [(84, (.op (.bin .neq) [(.op (.ld 1 false) [(.op (.fa 2 1) [(.sl 7)])]), (.op (.ld 1 false) [(.op (.fa 2 1) [(.sl 6)])])]))])
 (.cond (.sl 84) (.seq (.q [(4, (.k (.i .i64 3)))])
 (.ret [4])) .skip))))))))))
 (.q [(5, (.op (.bin .add) [(.sl 5), (.k (.i .i64 1))]))])))
def body10_2 : C :=
 (.seq (.seq (.q [(118, (.op (.bin .lss) [(.sl 11), (.op .len [(.sl 9)])]))])
 (.cond (.sl 118) .skip (.exit 2 [])))
 (.seq (.blk 3 (.seq (.q [(12, (.op (.call true 33) [(.sl 0), (.op (.ld 1 false) [(.op (.ix 1) [(.sl 9), (.sl 11)])]), (.op (.ld 1 false) [(.op (.ix 1) [(.sl 10), (.sl 11)])])]))])
 (.seq (.q [(132, (.op (.bin .neq) [(.sl 12), (.k (.i .i64 0))]))])
 (.cond (.sl 132) (.seq (.q [(4, (.sl 12))])
 (.ret [4])) .skip))))
 (.q [(11, (.op (.bin .add) [(.sl 11), (.k (.i .i64 1))]))])))
def code10 : FCode := ⟨2, [.tmp 4],
 (.seq (.s [.box 3 (.t 1), .as 4 (.c (.i .i64 0))] [])
 (.seq (.seq (.q [(20, (.ite (.op (.bin .lss) [(.op .len [(.sl 0)]), (.k (.i .i64 1))]) (.k (.b true)) (.op (.bin .gtr) [(.op .len [(.sl 0)]), (.k (.i .i64 40))])))])
 (.cond (.sl 20) (.seq (.q [(4, (.k (.i .i64 5)))])
 (.ret [4])) .skip))
 (.seq (.seq (.q [(5, (.k (.i .i64 0)))])
 (.blk 0 (.loop [0, 3, 5] body10_1)))
 (.seq (.s [.fa 85 0 1 (.t 3), .q 86 (.ld 1 false) [(.t 85)], .fa 87 1 1 (.t 3), .q 88 (.ld 1 false) [(.t 87)], .fa 89 2 1 (.t 3), .q 90 (.ld 1 false) [(.t 89)], .fa 91 3 1 (.t 3), .q 92 (.ld 1 false) [(.t 91)], .fa 93 4 1 (.t 3), .q 94 (.ld 1 false) [(.t 93)], .fa 95 5 1 (.t 3), .q 96 (.ld 1 false) [(.t 95)], .fa 97 6 1 (.t 3), .q 98 (.ld 1 false) [(.t 97)], .fa 99 7 1 (.t 3), .q 100 (.ld 1 false) [(.t 99)], .fa 101 8 1 (.t 3), .q 102 (.ld 1 false) [(.t 101)], .fa 103 9 1 (.t 3), .q 104 (.ld 1 false) [(.t 103)], .fa 105 10 1 (.t 3), .q 106 (.ld 1 false) [(.t 105)], .fa 107 11 1 (.t 3), .q 108 (.ld 1 false) [(.t 107)], .fa 109 12 1 (.t 3), .q 110 (.ld 1 false) [(.t 109)], .fa 111 13 1 (.t 3), .q 112 (.ld 1 false) [(.t 111)], .bsl 113 3 1 [(.t 86), (.t 88), (.t 90), (.t 92), (.t 94), (.t 96), (.t 98), (.t 100), (.t 102), (.t 104), (.t 106), (.t 108), (.t 110), (.t 112)], .as 9 (.t 113)] [85, 86, 87, 88, 89, 90, 91, 92, 93, 94, 95, 96, 97, 98, 99, 100, 101, 102, 103, 104, 105, 106, 107, 108, 109, 110, 111, 112, 113])
 (.seq (.s [.bsl 114 3 1 [(.c (.i .i64 1)), (.c (.i .i64 2)), (.c (.i .i64 5)), (.c (.i .i64 4)), (.c (.i .i64 4)), (.c (.i .i64 2)), (.c (.i .i64 1)), (.c (.i .i64 1)), (.c (.i .i64 4)), (.c (.i .i64 4)), (.c (.i .i64 2)), (.c (.i .i64 5)), (.c (.i .i64 5)), (.c (.i .i64 4))], .as 10 (.t 114)] [114])
 (.seq (.seq (.q [(11, (.k (.i .i64 0)))])
 (.blk 2 (.loop [0, 9, 10, 11] body10_2)))
 (.seq (.q [(4, (.k (.i .i64 0)))])
 (.ret [4]))))))))⟩
theorem comp10 : compile Tryz.prog Tryz.f10 = some code10 := by kernel_rfl
theorem okf10 : okFn Tryz.prog 10 = true := by kernel_rfl
-- 11: corebank/corebankref17.Check
def body11_1 : C :=
 (.seq (.seq (.q [(11, (.op (.bin .lss) [(.sl 3), (.op .len [(.sl 0)])]))])
 (.cond (.sl 11) .skip (.exit 0 [0])))
 (.seq (.blk 1 (.seq (.q [(24, (.op (.un .not) [(.op (.call true 34) [(.op (.ld 19 true) [(.op (.ix 19) [(.sl 0), (.op (.bin .sub) [(.sl 3), (.k (.i .i64 1))])])]), (.op (.ld 19 true) [(.op (.ix 19) [(.sl 0), (.sl 3)])])])]))])
 (.cond (.sl 24) (.seq (.q [(2, (.k (.i .i64 10)))])
 (.ret [2])) .skip)))
 (.q [(3, (.op (.bin .add) [(.sl 3), (.k (.i .i64 1))]))])))
def body11_2 : C :=
 (.seq (.seq (.q [(28, (.op (.bin .lss) [(.sl 4), (.op .len [(.sl 0)])]))])
 (.cond (.sl 28) .skip (.exit 2 [])))
 (.seq (.blk 3 (.seq (.q [(56, (.ite (.op (.bin .eql) [(.op (.ld 1 false) [(.op (.fa 0 1) [(.op (.ix 19) [(.sl 0), (.sl 4)])])]), (.op (.ld 1 false) [(.op (.fa 0 1) [(.op (.ix 19) [(.sl 0), (.op (.bin .sub) [(.sl 4), (.k (.i .i64 1))])])])])]) (.op (.bin .neq) [(.op (.ld 1 false) [(.op (.fa 1 1) [(.op (.ix 19) [(.sl 0), (.sl 4)])])]), (.op (.ld 1 false) [(.op (.fa 1 1) [(.op (.ix 19) [(.sl 0), (.op (.bin .sub) [(.sl 4), (.k (.i .i64 1))])])])])]) (.k (.b false))))])
 (.cond (.sl 56) (.seq (.q [(2, (.k (.i .i64 14)))])
 (.ret [2])) .skip)))
 (.q [(4, (.op (.bin .add) [(.sl 4), (.k (.i .i64 1))]))])))
def code11 : FCode := ⟨1, [.tmp 2],
 (.seq (.q [(2, (.k (.i .i64 0)))])
 (.seq (.seq (.q [(7, (.op (.bin .gtr) [(.op .len [(.sl 0)]), (.k (.i .i64 64))]))])
 (.cond (.sl 7) (.seq (.q [(2, (.k (.i .i64 5)))])
 (.ret [2])) .skip))
 (.seq (.seq (.q [(3, (.k (.i .i64 1)))])
 (.blk 0 (.loop [0, 3] body11_1)))
 (.seq (.seq (.q [(4, (.k (.i .i64 1)))])
 (.blk 2 (.loop [0, 4] body11_2)))
 (.seq (.q [(2, (.k (.i .i64 0)))])
 (.ret [2]))))))⟩
theorem comp11 : compile Tryz.prog Tryz.f11 = some code11 := by kernel_rfl
theorem okf11 : okFn Tryz.prog 11 = true := by kernel_rfl
-- 12: corebank/corebankref05.Check
def body12_1 : C :=
 (.seq (.seq (.q [(13, (.op (.bin .lss) [(.sl 3), (.op .len [(.op (.ld 1 false) [(.op (.fa 1 1) [(.sl 1)])])])]))])
 (.cond (.sl 13) .skip (.exit 0 [1])))
 (.seq (.blk 1 (.seq (.q [(29, (.ite (.op (.bin .lss) [(.op (.ld 1 false) [(.op (.ix 1) [(.op (.ld 1 false) [(.op (.fa 1 1) [(.sl 1)])]), (.sl 3)])]), (.k (.i .i64 0))]) (.k (.b true)) (.op (.bin .gtr) [(.op (.ld 1 false) [(.op (.ix 1) [(.op (.ld 1 false) [(.op (.fa 1 1) [(.sl 1)])]), (.sl 3)])]), (.k (.i .i64 6))])))])
 (.cond (.sl 29) (.seq (.q [(2, (.k (.i .i64 1)))])
 (.ret [2])) .skip)))
 (.q [(3, (.op (.bin .add) [(.sl 3), (.k (.i .i64 1))]))])))
def body12_2 : C :=
 (.seq (.seq (.q [(48, (.op (.bin .lss) [(.sl 4), (.op .len [(.op (.ld 1 false) [(.op (.fa 2 1) [(.sl 1)])])])]))])
 (.cond (.sl 48) .skip (.exit 2 [1])))
 (.seq (.blk 3 (.seq (.q [(57, (.op (.un .not) [(.op (.call false 37) [(.op (.ld 1 false) [(.op (.ix 1) [(.op (.ld 1 false) [(.op (.fa 2 1) [(.sl 1)])]), (.sl 4)])])])]))])
 (.cond (.sl 57) (.seq (.q [(2, (.k (.i .i64 1)))])
 (.ret [2])) .skip)))
 (.q [(4, (.op (.bin .add) [(.sl 4), (.k (.i .i64 1))]))])))
def code12 : FCode := ⟨1, [.tmp 2],
 (.seq (.s [.box 1 (.t 0), .as 2 (.c (.i .i64 0))] [])
 (.seq (.seq (.q [(8, (.op (.un .not) [(.op (.call false 35) [(.op (.ld 1 false) [(.op (.fa 0 1) [(.sl 1)])])])]))])
 (.cond (.sl 8) (.seq (.q [(2, (.k (.i .i64 4)))])
 (.ret [2])) .skip))
 (.seq (.seq (.q [(3, (.k (.i .i64 0)))])
 (.blk 0 (.loop [1, 3] body12_1)))
 (.seq (.seq (.q [(39, (.ite (.op (.bin .gtr) [(.op .len [(.op (.ld 1 false) [(.op (.fa 1 1) [(.sl 1)])])]), (.k (.i .i64 6))]) (.k (.b true)) (.op (.un .not) [(.op (.call false 36) [(.op (.ld 1 false) [(.op (.fa 1 1) [(.sl 1)])])])])))])
 (.cond (.sl 39) (.seq (.q [(2, (.k (.i .i64 1)))])
 (.ret [2])) .skip))
 (.seq (.seq (.q [(43, (.op (.bin .gtr) [(.op .len [(.op (.ld 1 false) [(.op (.fa 2 1) [(.sl 1)])])]), (.k (.i .i64 400))]))])
 (.cond (.sl 43) (.seq (.q [(2, (.k (.i .i64 5)))])
 (.ret [2])) .skip))
 (.seq (.seq (.q [(4, (.k (.i .i64 0)))])
 (.blk 2 (.loop [1, 4] body12_2)))
 (.seq (.seq (.q [(61, (.op (.un .not) [(.op (.call false 36) [(.op (.ld 1 false) [(.op (.fa 2 1) [(.sl 1)])])])]))])
 (.cond (.sl 61) (.seq (.q [(2, (.k (.i .i64 10)))])
 (.ret [2])) .skip))
 (.seq (.q [(2, (.k (.i .i64 0)))])
 (.ret [2])))))))))⟩
theorem comp12 : compile Tryz.prog Tryz.f12 = some code12 := by kernel_rfl
theorem okf12 : okFn Tryz.prog 12 = true := by kernel_rfl
-- 13: corebank/corebankref15.Check
def body13_1 : C :=
 (.seq (.seq (.q [(112, (.op (.bin .lss) [(.sl 14), (.op .len [(.op (.ld 1 false) [(.op (.fa 17 1) [(.sl 3)])])])]))])
 (.cond (.sl 112) .skip (.exit 0 [3])))
 (.seq (.blk 1 (.seq (.q [(15, (.op (.call false 42) [(.op (.ld 10 true) [(.op (.ix 10) [(.op (.ld 1 false) [(.op (.fa 17 1) [(.sl 3)])]), (.sl 14)])])]))])
 (.seq (.q [(122, (.op (.bin .neq) [(.sl 15), (.k (.i .i64 0))]))])
 (.cond (.sl 122) (.seq (.q [(6, (.sl 15))])
 (.ret [6])) .skip))))
 (.q [(14, (.op (.bin .add) [(.sl 14), (.k (.i .i64 1))]))])))
def body13_2 : C :=
 (.seq (.seq (.q [(128, (.op (.bin .lss) [(.sl 16), (.op .len [(.op (.ld 1 false) [(.op (.fa 18 1) [(.sl 3)])])])]))])
 (.cond (.sl 128) .skip (.exit 2 [])))
 (.seq (.blk 3 (.seq (.q [(17, (.op (.call false 43) [(.op (.ld 6 true) [(.op (.ix 6) [(.op (.ld 1 false) [(.op (.fa 18 1) [(.sl 3)])]), (.sl 16)])])]))])
 (.seq (.q [(138, (.op (.bin .neq) [(.sl 17), (.k (.i .i64 0))]))])
 (.cond (.sl 138) (.seq (.q [(6, (.sl 17))])
 (.ret [6])) .skip))))
 (.q [(16, (.op (.bin .add) [(.sl 16), (.k (.i .i64 1))]))])))
def code13 : FCode := ⟨3, [.tmp 6],
 (.seq (.s [.box 3 (.t 0), .as 6 (.c (.i .i64 0))] [])
 (.seq (.seq (.q [(21, (.op (.un .not) [(.op (.call false 38) [(.op (.ld 1 false) [(.op (.fa 0 1) [(.sl 3)])])])]))])
 (.cond (.sl 21) (.seq (.q [(6, (.k (.i .i64 4)))])
 (.ret [6])) .skip))
 (.seq (.seq (.s [.mv 23 (.t 1), .fa 24 1 1 (.t 3), .q 25 (.ld 1 false) [(.t 24)], .call (some 26) 39 [(.t 23), (.t 25)], .mv 22 (.t 26), .ext 27 0 22, .ext 28 1 22, .alo 7 [(.s []), (.i .i64 0)], .sto 2 (.t 7) (.t 27), .as 8 (.t 28)] [23, 24, 25, 26, 22, 27, 28, 7])
 (.seq (.q [(30, (.op (.un .not) [(.sl 8)]))])
 (.cond (.sl 30) (.seq (.q [(6, (.k (.i .i64 14)))])
 (.ret [6])) .skip)))
 (.seq (.seq (.s [.mv 32 (.t 2), .fa 33 2 1 (.t 3), .q 34 (.ld 1 false) [(.t 33)], .call (some 35) 40 [(.t 32), (.t 34)], .mv 31 (.t 35), .ext 36 0 31, .ext 37 1 31, .alo 9 [(.s []), (.l []), (.l [])], .sto 3 (.t 9) (.t 36), .as 10 (.t 37)] [32, 33, 34, 35, 31, 36, 37, 9])
 (.seq (.q [(39, (.op (.un .not) [(.sl 10)]))])
 (.cond (.sl 39) (.seq (.q [(6, (.k (.i .i64 11)))])
 (.ret [6])) .skip)))
 (.seq (.q [(11, (.ite (.ite (.ite (.op (.bin .eql) [(.op (.ld 1 false) [(.op (.fa 4 1) [(.sl 3)])]), (.k (.i .i64 1))]) (.k (.b true)) (.op (.bin .eql) [(.op (.ld 1 false) [(.op (.fa 4 1) [(.sl 3)])]), (.k (.i .i64 3))])) (.k (.b true)) (.op (.bin .eql) [(.op (.ld 1 false) [(.op (.fa 4 1) [(.sl 3)])]), (.k (.i .i64 6))])) (.k (.b true)) (.op (.bin .eql) [(.op (.ld 1 false) [(.op (.fa 4 1) [(.sl 3)])]), (.k (.i .i64 12))])))])
 (.seq (.seq (.q [(85, (.ite (.ite (.ite (.ite (.ite (.op (.un .not) [(.op (.call false 37) [(.op (.ld 1 false) [(.op (.fa 3 1) [(.sl 3)])])])]) (.k (.b true)) (.op (.un .not) [(.sl 11)])) (.k (.b true)) (.op (.bin .lss) [(.op (.ld 1 false) [(.op (.fa 5 1) [(.sl 3)])]), (.k (.i .i64 0))])) (.k (.b true)) (.op (.bin .gtr) [(.op (.ld 1 false) [(.op (.fa 5 1) [(.sl 3)])]), (.k (.i .i64 1000000000000))])) (.k (.b true)) (.op (.bin .lss) [(.op (.ld 1 false) [(.op (.fa 6 1) [(.sl 3)])]), (.k (.i .i64 0))])) (.k (.b true)) (.op (.bin .gtr) [(.op (.ld 1 false) [(.op (.fa 6 1) [(.sl 3)])]), (.k (.i .i64 1000000))])))])
 (.cond (.sl 85) (.seq (.q [(6, (.k (.i .i64 1)))])
 (.ret [6])) .skip))
 (.seq (.seq (.q [(12, (.op (.call false 41) [(.op (.ld 5 true) [(.op (.fa 7 5) [(.sl 3)])])]))])
 (.seq (.q [(90, (.op (.bin .neq) [(.sl 12), (.k (.i .i64 0))]))])
 (.cond (.sl 90) (.seq (.q [(6, (.sl 12))])
 (.ret [6])) .skip)))
 (.seq (.seq (.q [(13, (.op (.call false 41) [(.op (.ld 5 true) [(.op (.fa 12 5) [(.sl 3)])])]))])
 (.seq (.q [(96, (.op (.bin .neq) [(.sl 13), (.k (.i .i64 0))]))])
 (.cond (.sl 96) (.seq (.q [(6, (.sl 13))])
 (.ret [6])) .skip)))
 (.seq (.seq (.q [(107, (.ite (.op (.bin .gtr) [(.op .len [(.op (.ld 1 false) [(.op (.fa 17 1) [(.sl 3)])])]), (.k (.i .i64 4))]) (.k (.b true)) (.op (.bin .gtr) [(.op .len [(.op (.ld 1 false) [(.op (.fa 18 1) [(.sl 3)])])]), (.k (.i .i64 4))])))])
 (.cond (.sl 107) (.seq (.q [(6, (.k (.i .i64 5)))])
 (.ret [6])) .skip))
 (.seq (.seq (.q [(14, (.k (.i .i64 0)))])
 (.blk 0 (.loop [3, 14] body13_1)))
 (.seq (.seq (.q [(16, (.k (.i .i64 0)))])
 (.blk 2 (.loop [3, 16] body13_2)))
 (.seq (.q [(6, (.k (.i .i64 0)))])
 (.ret [6])))))))))))))⟩
theorem comp13 : compile Tryz.prog Tryz.f13 = some code13 := by kernel_rfl
theorem okf13 : okFn Tryz.prog 13 = true := by kernel_rfl
-- 14: corebank/corebankref24.Check
def body14_1 : C :=
 (.seq (.seq (.q [(15, (.op (.bin .lss) [(.sl 3), (.op .len [(.op (.ld 1 false) [(.op (.fa 18 1) [(.sl 1)])])])]))])
 (.cond (.sl 15) .skip (.exit 0 [])))
 (.seq (.blk 1 (.seq (.s [.fa 18 18 1 (.t 1), .q 19 (.ld 1 false) [(.t 18)], .mv 20 (.t 3), .ix 21 7 (.t 19) (.t 20), .q 22 (.ld 7 true) [(.t 21)], .alo 4 [(.i .i64 0), (.i .i64 0), (.i .i64 0), (.i .i64 0), (.s []), (.s []), (.s [])], .sto 7 (.t 4) (.t 22)] [18, 19, 20, 21, 22])
 (.seq (.q [(5, (.ite (.op (.bin .eql) [(.op (.ld 1 false) [(.op (.fa 2 1) [(.sl 4)])]), (.k (.i .i64 0))]) (.k (.b true)) (.ite (.op (.call false 37) [(.op (.ld 1 false) [(.op (.fa 2 1) [(.sl 4)])])]) (.op (.bin .geq) [(.op (.ld 1 false) [(.op (.fa 2 1) [(.sl 4)])]), (.op (.ld 1 false) [(.op (.fa 1 1) [(.sl 4)])])]) (.k (.b false)))))])
 (.seq (.seq (.q [(54, (.ite (.ite (.ite (.op (.un .not) [(.op (.call false 44) [(.op (.ld 7 true) [(.sl 4)])])]) (.k (.b true)) (.op (.un .not) [(.sl 5)])) (.k (.b true)) (.op (.bin .lss) [(.op (.ld 1 false) [(.op (.fa 3 1) [(.sl 4)])]), (.k (.i .i64 0))])) (.k (.b true)) (.op (.bin .gtr) [(.op (.ld 1 false) [(.op (.fa 3 1) [(.sl 4)])]), (.k (.i .i64 1000000000000))])))])
 (.cond (.sl 54) (.seq (.q [(2, (.k (.i .i64 1)))])
 (.ret [2])) .skip))
 (.seq (.seq (.q [(68, (.ite (.op (.bin .gtr) [(.sl 3), (.k (.i .i64 0))]) (.op (.bin .leq) [(.op (.ld 1 false) [(.op (.fa 0 1) [(.sl 4)])]), (.op (.ld 1 false) [(.op (.fa 0 1) [(.op (.ix 7) [(.op (.ld 1 false) [(.op (.fa 18 1) [(.sl 1)])]), (.op (.bin .sub) [(.sl 3), (.k (.i .i64 1))])])])])]) (.k (.b false))))])
 (.cond (.sl 68) (.seq (.q [(2, (.k (.i .i64 10)))])
 (.ret [2])) .skip))
 (.seq (.q [(6, (.op (.call false 45) [(.op (.ld 22 true) [(.sl 1)]), (.op (.ld 7 true) [(.sl 4)])]))])
 (.seq (.q [(73, (.op (.bin .neq) [(.sl 6), (.k (.i .i64 0))]))])
 (.cond (.sl 73) (.seq (.q [(2, (.sl 6))])
 (.ret [2])) .skip))))))))
 (.q [(3, (.op (.bin .add) [(.sl 3), (.k (.i .i64 1))]))])))
def code14 : FCode := ⟨1, [.tmp 2],
 (.seq (.s [.box 1 (.t 0), .as 2 (.c (.i .i64 0))] [])
 (.seq (.seq (.q [(10, (.op (.bin .gtr) [(.op .len [(.op (.ld 1 false) [(.op (.fa 18 1) [(.sl 1)])])]), (.k (.i .i64 64))]))])
 (.cond (.sl 10) (.seq (.q [(2, (.k (.i .i64 5)))])
 (.ret [2])) .skip))
 (.seq (.seq (.q [(3, (.k (.i .i64 0)))])
 (.blk 0 (.loop [1, 3] body14_1)))
 (.seq (.q [(2, (.k (.i .i64 0)))])
 (.ret [2])))))⟩
theorem comp14 : compile Tryz.prog Tryz.f14 = some code14 := by kernel_rfl
theorem okf14 : okFn Tryz.prog 14 = true := by kernel_rfl
-- 15: corebank/corebankref25.journal
def body15_1 : C :=
 (.seq (.seq (.q [(52, (.op (.bin .lss) [(.sl 5), (.sl 3)]))])
 (.cond (.sl 52) .skip (.exit 2 [1, 3])))
 (.seq (.blk 3 (.seq (.q [(63, (.op (.bin .eql) [(.op (.ld 1 false) [(.op (.fa 6 1) [(.op (.ix 10) [(.op (.ld 1 false) [(.op (.fa 19 1) [(.sl 1)])]), (.sl 5)])])]), (.op (.ld 1 false) [(.op (.fa 6 1) [(.sl 4)])])]))])
 (.cond (.sl 63) (.seq (.q [(2, (.k (.b false)))])
 (.ret [2])) .skip)))
 (.q [(5, (.op (.bin .add) [(.sl 5), (.k (.i .i64 1))]))])))
def body15_2 : C :=
 (.seq (.seq (.q [(10, (.op (.bin .lss) [(.sl 3), (.op .len [(.op (.ld 1 false) [(.op (.fa 19 1) [(.sl 1)])])])]))])
 (.cond (.sl 10) .skip (.exit 0 [])))
 (.seq (.blk 1 (.seq (.s [.fa 13 19 1 (.t 1), .q 14 (.ld 1 false) [(.t 13)], .mv 15 (.t 3), .ix 16 10 (.t 14) (.t 15), .q 17 (.ld 10 true) [(.t 16)], .alo 4 [(.i .i64 0), (.i .i64 0), (.i .i64 0), (.i .i64 0), (.i .i64 0), (.i .i64 0), (.s []), (.s []), (.l []), (.i .u64 0)], .sto 10 (.t 4) (.t 17)] [13, 14, 15, 16, 17])
 (.seq (.seq (.q [(49, (.ite (.ite (.ite (.op (.bin .neq) [(.op (.ld 1 false) [(.op (.fa 0 1) [(.sl 4)])]), (.op (.bin .add) [(.sl 3), (.k (.i .i64 1))])]) (.k (.b true)) (.op (.bin .neq) [(.op (.call true 46) [(.op (.ld 10 true) [(.sl 4)])]), (.k (.i .i64 0))])) (.k (.b true)) (.ite (.op (.bin .gtr) [(.sl 3), (.k (.i .i64 0))]) (.op (.bin .lss) [(.op (.ld 1 false) [(.op (.fa 1 1) [(.sl 4)])]), (.op (.ld 1 false) [(.op (.fa 1 1) [(.op (.ix 10) [(.op (.ld 1 false) [(.op (.fa 19 1) [(.sl 1)])]), (.op (.bin .sub) [(.sl 3), (.k (.i .i64 1))])])])])]) (.k (.b false)))) (.k (.b true)) (.op (.un .not) [(.op (.call true 47) [(.op (.ld 22 true) [(.sl 1)]), (.op (.ld 10 true) [(.sl 4)])])])))])
 (.cond (.sl 49) (.seq (.q [(2, (.k (.b false)))])
 (.ret [2])) .skip))
 (.seq (.q [(5, (.k (.i .i64 0)))])
 (.blk 2 (.loop [1, 3, 4, 5] body15_1))))))
 (.q [(3, (.op (.bin .add) [(.sl 3), (.k (.i .i64 1))]))])))
def code15 : FCode := ⟨1, [.tmp 2],
 (.seq (.s [.box 1 (.t 0), .as 2 (.c (.b false))] [])
 (.seq (.seq (.q [(3, (.k (.i .i64 0)))])
 (.blk 0 (.loop [1, 3] body15_2)))
 (.seq (.q [(2, (.k (.b true)))])
 (.ret [2]))))⟩
theorem comp15 : compile Tryz.prog Tryz.f15 = some code15 := by kernel_rfl
theorem okf15 : okFn Tryz.prog 15 = true := by kernel_rfl
-- 16: corebank/corebankref22.Check
def body16_1 : C :=
 (.seq (.seq (.q [(11, (.op (.bin .lss) [(.sl 3), (.op .len [(.sl 0)])]))])
 (.cond (.sl 11) .skip (.exit 0 [])))
 (.seq (.blk 1 (.seq (.seq (.q [(4, (.op (.call false 48) [(.op (.ld 6 true) [(.op (.ix 6) [(.sl 0), (.sl 3)])])]))])
 (.seq (.q [(20, (.op (.bin .neq) [(.sl 4), (.k (.i .i64 0))]))])
 (.cond (.sl 20) (.seq (.q [(2, (.sl 4))])
 (.ret [2])) .skip)))
 (.seq (.seq (.q [(37, (.ite (.op (.bin .gtr) [(.sl 3), (.k (.i .i64 0))]) (.op (.bin .leq) [(.op (.ld 1 false) [(.op (.fa 0 1) [(.op (.ix 6) [(.sl 0), (.sl 3)])])]), (.op (.ld 1 false) [(.op (.fa 0 1) [(.op (.ix 6) [(.sl 0), (.op (.bin .sub) [(.sl 3), (.k (.i .i64 1))])])])])]) (.k (.b false))))])
 (.cond (.sl 37) (.seq (.q [(2, (.k (.i .i64 10)))])
 (.ret [2])) .skip))
 (.seq (.q [(46, (.op (.call true 49) [(.op (.slc 6 false true) [(.sl 0), (.sl 3)]), (.op (.ld 1 false) [(.op (.fa 5 1) [(.op (.ix 6) [(.sl 0), (.sl 3)])])])]))])
 (.cond (.sl 46) (.seq (.q [(2, (.k (.i .i64 12)))])
 (.ret [2])) .skip)))))
 (.q [(3, (.op (.bin .add) [(.sl 3), (.k (.i .i64 1))]))])))
def code16 : FCode := ⟨1, [.tmp 2],
 (.seq (.q [(2, (.k (.i .i64 0)))])
 (.seq (.seq (.q [(7, (.op (.bin .gtr) [(.op .len [(.sl 0)]), (.k (.i .i64 64))]))])
 (.cond (.sl 7) (.seq (.q [(2, (.k (.i .i64 5)))])
 (.ret [2])) .skip))
 (.seq (.seq (.q [(3, (.k (.i .i64 0)))])
 (.blk 0 (.loop [0, 3] body16_1)))
 (.seq (.q [(2, (.k (.i .i64 0)))])
 (.ret [2])))))⟩
theorem comp16 : compile Tryz.prog Tryz.f16 = some code16 := by kernel_rfl
theorem okf16 : okFn Tryz.prog 16 = true := by kernel_rfl
-- 17: corebank/corebankref23.Check
def body17_1 : C :=
 (.seq (.seq (.q [(10, (.op (.bin .lss) [(.sl 3), (.op .len [(.sl 0)])]))])
 (.cond (.sl 10) .skip (.exit 0 [])))
 (.seq (.blk 1 (.seq (.seq (.q [(18, (.op (.un .not) [(.op (.call false 50) [(.op (.ld 7 true) [(.op (.ix 7) [(.sl 0), (.sl 3)])])])]))])
 (.cond (.sl 18) (.seq (.q [(2, (.k (.i .i64 1)))])
 (.ret [2])) .skip))
 (.seq (.seq (.q [(25, (.op (.un .not) [(.op (.call false 35) [(.op (.ld 1 false) [(.op (.fa 6 1) [(.op (.ix 7) [(.sl 0), (.sl 3)])])])])]))])
 (.cond (.sl 25) (.seq (.q [(2, (.k (.i .i64 4)))])
 (.ret [2])) .skip))
 (.seq (.q [(41, (.ite (.op (.bin .gtr) [(.sl 3), (.k (.i .i64 0))]) (.op (.bin .leq) [(.op (.ld 1 false) [(.op (.fa 0 1) [(.op (.ix 7) [(.sl 0), (.sl 3)])])]), (.op (.ld 1 false) [(.op (.fa 0 1) [(.op (.ix 7) [(.sl 0), (.op (.bin .sub) [(.sl 3), (.k (.i .i64 1))])])])])]) (.k (.b false))))])
 (.cond (.sl 41) (.seq (.q [(2, (.k (.i .i64 10)))])
 (.ret [2])) .skip)))))
 (.q [(3, (.op (.bin .add) [(.sl 3), (.k (.i .i64 1))]))])))
def code17 : FCode := ⟨1, [.tmp 2],
 (.seq (.q [(2, (.k (.i .i64 0)))])
 (.seq (.seq (.q [(6, (.op (.bin .gtr) [(.op .len [(.sl 0)]), (.k (.i .i64 64))]))])
 (.cond (.sl 6) (.seq (.q [(2, (.k (.i .i64 5)))])
 (.ret [2])) .skip))
 (.seq (.seq (.q [(3, (.k (.i .i64 0)))])
 (.blk 0 (.loop [0, 3] body17_1)))
 (.seq (.q [(2, (.k (.i .i64 0)))])
 (.ret [2])))))⟩
theorem comp17 : compile Tryz.prog Tryz.f17 = some code17 := by kernel_rfl
theorem okf17 : okFn Tryz.prog 17 = true := by kernel_rfl
-- 18: corebank/report.Check
def body18_1 : C :=
 (.seq (.q [(19, (.op (.bin .lss) [(.sl 18), (.sl 17)]))])
 (.seq (.cond (.sl 19) .skip (.exit 0 []))
 (.seq (.blk 1 (.seq (.s [.ix 20 3 (.t 16) (.t 18), .q 21 (.ld 3 true) [(.t 20)], .alo 6 [(.s []), (.i .i64 0), (.l [])], .sto 3 (.t 6) (.t 21)] [20, 21])
 (.seq (.blk 2 (.seq (.q [(22, (.op (.un .not) [(.op (.call false 51) [(.op (.ld 1 false) [(.op (.fa 0 1) [(.sl 6)])])])]))])
 (.cond (.sl 22) (.seq (.q [(4, (.k (.i .i64 4)))])
 (.ret [4])) (.seq (.q [(27, (.ite (.op (.bin .neq) [(.op (.ld 1 false) [(.op (.fa 1 1) [(.sl 6)])]), (.k (.i .i64 1))]) (.op (.bin .neq) [(.op (.ld 1 false) [(.op (.fa 1 1) [(.sl 6)])]), (.k (.i .i64 (-1)))]) (.k (.b false))))])
 (.cond (.sl 27) (.seq (.q [(4, (.k (.i .i64 1)))])
 (.ret [4])) .skip)))))
 (.seq (.q [(7, (.op (.call false 52) [(.op (.ld 22 true) [(.sl 2)]), (.op (.ld 1 false) [(.op (.fa 2 1) [(.sl 6)])])]))])
 (.seq (.q [(41, (.op (.bin .neq) [(.sl 7), (.k (.i .i64 0))]))])
 (.cond (.sl 41) (.seq (.q [(4, (.sl 7))])
 (.ret [4])) .skip))))))
 (.q [(18, (.op (.bin .add) [(.sl 18), (.k (.i .i64 1))]))]))))
def code18 : FCode := ⟨2, [.tmp 4],
 (.seq (.s [.box 2 (.t 0), .as 4 (.c (.i .i64 0))] [])
 (.seq (.seq (.q [(15, (.ite (.op (.bin .lss) [(.op .len [(.sl 1)]), (.k (.i .i64 1))]) (.k (.b true)) (.op (.bin .gtr) [(.op .len [(.sl 1)]), (.k (.i .i64 64))])))])
 (.cond (.sl 15) (.seq (.q [(4, (.k (.i .i64 5)))])
 (.ret [4])) .skip))
 (.seq (.seq (.s [.mv 16 (.t 1), .q 17 .len [(.t 16)], .mv 18 (.c (.i .i64 0))] [])
 (.blk 0 (.loop [2, 16, 17, 18] body18_1)))
 (.seq (.q [(4, (.k (.i .i64 0)))])
 (.ret [4])))))⟩
theorem comp18 : compile Tryz.prog Tryz.f18 = some code18 := by kernel_rfl
theorem okf18 : okFn Tryz.prog 18 = true := by kernel_rfl
-- 19: corebank/report.amounts
def body19_1 : C :=
 (.seq (.q [(15, (.op (.bin .lss) [(.sl 14), (.sl 13)]))])
 (.seq (.cond (.sl 15) .skip (.exit 0 [7]))
 (.seq (.blk 1 (.seq (.s [.ix 16 3 (.t 12) (.t 14), .q 17 (.ld 3 true) [(.t 16)], .alo 9 [(.i .i64 0), (.i .i64 0), (.s [])], .sto 3 (.t 9) (.t 17)] [16, 17])
 (.seq (.q [(22, (.op (.call false 53) [(.op (.ld 22 true) [(.sl 3)]), (.op (.ld 3 true) [(.sl 4)]), (.op (.ld 1 false) [(.op (.fa 0 1) [(.sl 9)])])]))])
 (.cond (.sl 22) (.s [.mv 23 (.t 7), .fa 24 2 1 (.t 9), .q 25 (.ld 1 false) [(.t 24)], .mget 26 1 (.i .i64 0) (.t 23) (.t 25), .fa 27 1 1 (.t 4), .q 28 (.ld 1 false) [(.t 27)], .fa 29 1 1 (.t 9), .q 30 (.ld 1 false) [(.t 29)], .q 31 (.bin .mul) [(.t 28), (.t 30)], .q 32 (.bin .add) [(.t 26), (.t 31)], .mset 1 (.t 23) (.t 25) (.t 32)] [23, 24, 25, 26, 27, 28, 29, 30, 31, 32]) .skip))))
 (.q [(14, (.op (.bin .add) [(.sl 14), (.k (.i .i64 1))]))]))))
def code19 : FCode := ⟨3, [.tmp 6],
 (.seq (.s [.box 3 (.t 0), .box 4 (.t 1), .box 5 (.t 2), .as 6 (.c .um)] [])
 (.seq (.s [.mkm 10, .as 7 (.t 10)] [10])
 (.seq (.seq (.s [.fa 11 8 1 (.t 5), .q 12 (.ld 1 false) [(.t 11)], .q 13 .len [(.t 12)], .mv 14 (.c (.i .i64 0))] [11])
 (.blk 0 (.loop [3, 4, 7, 12, 13, 14] body19_1)))
 (.seq (.s [.mv 34 (.t 7), .as 6 (.t 34)] [34])
 (.ret [6])))))⟩
theorem comp19 : compile Tryz.prog Tryz.f19 = some code19 := by kernel_rfl
theorem okf19 : okFn Tryz.prog 19 = true := by kernel_rfl
-- 20: corebank/money.Valid
def code20 : FCode := ⟨1, [.tmp 2],
 (.seq (.q [(2, (.k (.b false)))])
 (.seq (.q [(2, (.ite (.op (.bin .geq) [(.sl 0), (.k (.i .i64 (-1000000000000)))]) (.op (.bin .leq) [(.sl 0), (.k (.i .i64 1000000000000))]) (.k (.b false))))])
 (.ret [2])))⟩
theorem comp20 : compile Tryz.prog Tryz.f20 = some code20 := by kernel_rfl
theorem okf20 : okFn Tryz.prog 20 = true := by kernel_rfl
-- 21: corebank/corebanklaw49.books
def code21 : FCode := ⟨0, [.cell 0 22 true],
 (.seq (.s [.alo 0 [(.l []), (.l []), (.l []), (.i .i64 0), (.i .i64 0), (.i .i64 0), (.i .i64 0), (.i .i64 0), (.i .i64 0), (.i .i64 0), (.i .i64 0), (.i .i64 0), (.i .i64 0), (.i .i64 0), (.i .i64 0), (.i .i64 0), (.i .i64 0), (.l []), (.l []), (.l []), (.l []), (.l [])]] [])
 (.seq (.s [.bld 3 [(.i .i64 0), (.i .i64 0), (.s [])] [(0, 1), (1, 1), (2, 1)] [(.c (.i .i64 11)), (.c (.i .i64 500)), (.c (.s [69, 85, 82]))], .bld 4 [(.i .i64 0), (.i .i64 0), (.s [])] [(0, 1), (1, 1), (2, 1)] [(.c (.i .i64 1000)), (.c (.i .i64 (-500))), (.c (.s [69, 85, 82]))], .bsl 5 122 3 [(.t 3), (.t 4)], .bld 6 [(.i .i64 0), (.i .i64 0), (.i .i64 0), (.i .i64 0), (.i .i64 0), (.i .i64 0), (.s []), (.s []), (.l []), (.i .u64 0)] [(0, 1), (1, 1), (2, 1), (3, 1), (6, 1), (8, 1)] [(.c (.i .i64 1)), (.c (.i .i64 6)), (.c (.i .i64 6)), (.c (.i .i64 1)), (.c (.s [100])), (.t 5)], .alo 1 [(.i .i64 0), (.i .i64 0), (.i .i64 0), (.i .i64 0), (.i .i64 0), (.i .i64 0), (.s []), (.s []), (.l []), (.i .u64 0)], .sto 10 (.t 1) (.t 6)] [3, 4, 5, 6])
 (.seq (.s [.bld 7 [(.i .i64 0), (.i .i64 0), (.i .i64 0), (.s [])] [(0, 1), (2, 1), (3, 1)] [(.c (.i .i64 1)), (.c (.i .i64 1)), (.c (.s [97, 115, 115, 101, 116, 115]))], .bld 8 [(.i .i64 0), (.i .i64 0), (.i .i64 0), (.s [])] [(0, 1), (2, 1), (3, 1)] [(.c (.i .i64 2)), (.c (.i .i64 2)), (.c (.s [100, 101, 98, 116, 115]))], .bld 9 [(.i .i64 0), (.i .i64 0), (.i .i64 0), (.s [])] [(0, 1), (1, 1), (2, 1), (3, 1)] [(.c (.i .i64 11)), (.c (.i .i64 1)), (.c (.i .i64 1)), (.c (.s [99, 97, 115, 104]))], .bld 10 [(.i .i64 0), (.i .i64 0), (.i .i64 0), (.s [])] [(0, 1), (1, 1), (2, 1), (3, 1)] [(.c (.i .i64 21)), (.c (.i .i64 2)), (.c (.i .i64 2)), (.c (.s [100, 101, 112, 111, 115, 105, 116, 115]))], .bsl 11 41 4 [(.t 7), (.t 8), (.t 9), (.t 10)], .as 2 (.t 11)] [7, 8, 9, 10, 11])
 (.seq (.s [.bld 12 [(.s []), (.i .i64 0)] [(0, 1), (1, 1)] [(.c (.s [69, 85, 82])), (.c (.i .i64 2))], .bsl 13 75 2 [(.t 12)], .mv 14 (.t 2), .bld 15 [(.i .i64 0), (.i .i64 0), (.i .i64 0), (.i .i64 0), (.i .i64 0), (.i .i64 0), (.i .i64 0), (.i .i64 0), (.i .i64 0), (.i .i64 0), (.i .i64 0), (.i .i64 0), (.i .i64 0), (.i .i64 0)] [(1, 1)] [(.c (.i .i64 21))], .bld 16 [(.i .i64 0), (.i .i64 0), (.i .i64 0), (.i .i64 0), (.s []), (.s []), (.s [])] [(0, 1), (4, 1), (5, 1)] [(.c (.i .i64 1000)), (.c (.s [97, 110, 110])), (.c (.s [98, 97, 115, 105, 99]))], .bsl 17 108 7 [(.t 16)], .q 18 (.ld 10 true) [(.t 1)], .bsl 19 72 10 [(.t 18)], .bld 20 [(.l []), (.l []), (.l []), (.i .i64 0), (.i .i64 0), (.i .i64 0), (.i .i64 0), (.i .i64 0), (.i .i64 0), (.i .i64 0), (.i .i64 0), (.i .i64 0), (.i .i64 0), (.i .i64 0), (.i .i64 0), (.i .i64 0), (.i .i64 0), (.l []), (.l []), (.l []), (.l []), (.l [])] [(0, 1), (2, 1), (3, 14), (18, 1), (19, 1)] [(.t 13), (.t 14), (.t 15), (.t 17), (.t 19)], .sto 22 (.t 0) (.t 20)] [12, 13, 14, 15, 16, 17, 18, 19, 20])
 (.ret [0])))))⟩
theorem comp21 : compile Tryz.prog Tryz.f21 = some code21 := by kernel_rfl
theorem okf21 : okFn Tryz.prog 21 = true := by kernel_rfl
-- 22: corebank/report.Drill
def body22_1 : C :=
 (.seq (.q [(36, (.op (.bin .lss) [(.sl 35), (.sl 34)]))])
 (.seq (.cond (.sl 36) .skip (.exit 0 [13]))
 (.seq (.blk 1 (.seq (.s [.ix 37 10 (.t 33) (.t 35), .q 38 (.ld 10 true) [(.t 37)], .alo 15 [(.i .i64 0), (.i .i64 0), (.i .i64 0), (.i .i64 0), (.i .i64 0), (.i .i64 0), (.s []), (.s []), (.l []), (.i .u64 0)], .sto 10 (.t 15) (.t 38)] [37, 38])
 (.seq (.g [.s (.fa 39 1 1 (.t 15)), .s (.q 40 (.ld 1 false) [(.t 39)]), .s (.mv 41 (.t 3)), .s (.q 42 (.bin .leq) [(.t 40), (.t 41)]), .s (.mv 43 (.t 42)), .gd 43 true (some 44) (.q 44 (.ld 22 true) [(.t 4)]), .gd 43 true (some 45) (.q 45 (.ld 3 true) [(.t 5)]), .gd 43 true (some 46) (.q 46 (.ld 10 true) [(.t 15)]), .gd 43 true (some 47) (.call (some 47) 19 [(.t 44), (.t 45), (.t 46)]), .gd 43 true (some 48) (.mv 48 (.t 2)), .gd 43 true (some 49) (.mget 49 1 (.i .i64 0) (.t 47) (.t 48)), .gd 43 true (some 50) (.q 50 (.bin .neq) [(.t 49), (.c (.i .i64 0))]), .pick 51 43 (.t 50) (.c (.b false))] [39, 40, 41, 42, 43, 44, 45, 46, 47, 48, 49, 50])
 (.cond (.sl 51) (.s [.mv 52 (.t 13), .fa 53 0 1 (.t 15), .q 54 (.ld 1 false) [(.t 53)], .bsl 55 3 1 [(.t 54)], .app 56 3 1 8 (.t 52) (.t 55), .as 13 (.t 56)] [52, 53, 54, 55, 56]) .skip))))
 (.q [(35, (.op (.bin .add) [(.sl 35), (.k (.i .i64 1))]))]))))
def code22 : FCode := ⟨4, [.tmp 8, .tmp 9],
 (.seq (.s [.box 4 (.t 0), .box 5 (.t 1), .as 8 (.c (.ow 3 [])), .as 9 (.c (.i .i64 0))] [])
 (.seq (.seq (.q [(10, (.op (.call false 18) [(.op (.ld 22 true) [(.sl 4)]), (.op (.bsl 3) [(.op (.ld 3 true) [(.sl 5)])])]))])
 (.seq (.q [(21, (.op (.bin .neq) [(.sl 10), (.k (.i .i64 0))]))])
 (.cond (.sl 21) (.seq (.s [.mv 22 (.t 10), .as 8 (.c (.ow 3 [])), .as 9 (.t 22)] [22])
 (.ret [8, 9])) .skip)))
 (.seq (.seq (.s [.fa 24 0 1 (.t 4), .q 25 (.ld 1 false) [(.t 24)], .mv 26 (.t 2), .call (some 27) 54 [(.t 25), (.t 26)], .mv 23 (.t 27), .ext 28 0 23, .ext 29 1 23, .alo 11 [(.s []), (.i .i64 0)], .sto 2 (.t 11) (.t 28), .as 12 (.t 29)] [24, 25, 26, 27, 23, 28, 29, 11])
 (.seq (.q [(31, (.op (.un .not) [(.sl 12)]))])
 (.cond (.sl 31) (.seq (.s [.as 8 (.c (.ow 3 [])), .as 9 (.c (.i .i64 14))] [])
 (.ret [8, 9])) .skip)))
 (.seq (.s [.as 13 (.c (.ow 3 []))] [])
 (.seq (.seq (.s [.fa 32 19 1 (.t 4), .q 33 (.ld 1 false) [(.t 32)], .q 34 .len [(.t 33)], .mv 35 (.c (.i .i64 0))] [32])
 (.blk 0 (.loop [2, 3, 4, 5, 13, 33, 34, 35] body22_1)))
 (.seq (.s [.mv 58 (.t 13), .as 8 (.t 58), .as 9 (.c (.i .i64 0))] [58])
 (.ret [8, 9])))))))⟩
theorem comp22 : compile Tryz.prog Tryz.f22 = some code22 := by kernel_rfl
theorem okf22 : okFn Tryz.prog 22 = true := by kernel_rfl
-- 23: corebank/corebankref49.SameCells
def body23_1 : C :=
 (.seq (.seq (.q [(14, (.op (.bin .lss) [(.sl 5), (.op .len [(.sl 0)])]))])
 (.cond (.sl 14) .skip (.exit 0 [])))
 (.seq (.blk 1 (.seq (.q [(25, (.op (.eqa true [2, 2, 1]) [(.op (.ld 3 true) [(.op (.ix 3) [(.sl 0), (.sl 5)])]), (.op (.ld 3 true) [(.op (.ix 3) [(.sl 1), (.sl 5)])])]))])
 (.cond (.sl 25) (.seq (.q [(4, (.k (.b false)))])
 (.ret [4])) .skip)))
 (.q [(5, (.op (.bin .add) [(.sl 5), (.k (.i .i64 1))]))])))
def code23 : FCode := ⟨2, [.tmp 4],
 (.seq (.q [(4, (.k (.b false)))])
 (.seq (.seq (.q [(10, (.op (.bin .neq) [(.op .len [(.sl 0)]), (.op .len [(.sl 1)])]))])
 (.cond (.sl 10) (.seq (.q [(4, (.k (.b false)))])
 (.ret [4])) .skip))
 (.seq (.seq (.q [(5, (.k (.i .i64 0)))])
 (.blk 0 (.loop [0, 1, 5] body23_1)))
 (.seq (.q [(4, (.k (.b true)))])
 (.ret [4])))))⟩
theorem comp23 : compile Tryz.prog Tryz.f23 = some code23 := by kernel_rfl
theorem okf23 : okFn Tryz.prog 23 = true := by kernel_rfl
-- 24: corebank/corebankref07.SameInts
def body24_1 : C :=
 (.seq (.seq (.q [(14, (.op (.bin .lss) [(.sl 5), (.op .len [(.sl 0)])]))])
 (.cond (.sl 14) .skip (.exit 0 [])))
 (.seq (.blk 1 (.seq (.q [(25, (.op (.bin .neq) [(.op (.ld 1 false) [(.op (.ix 1) [(.sl 0), (.sl 5)])]), (.op (.ld 1 false) [(.op (.ix 1) [(.sl 1), (.sl 5)])])]))])
 (.cond (.sl 25) (.seq (.q [(4, (.k (.b false)))])
 (.ret [4])) .skip)))
 (.q [(5, (.op (.bin .add) [(.sl 5), (.k (.i .i64 1))]))])))
def code24 : FCode := ⟨2, [.tmp 4],
 (.seq (.q [(4, (.k (.b false)))])
 (.seq (.seq (.q [(10, (.op (.bin .neq) [(.op .len [(.sl 0)]), (.op .len [(.sl 1)])]))])
 (.cond (.sl 10) (.seq (.q [(4, (.k (.b false)))])
 (.ret [4])) .skip))
 (.seq (.seq (.q [(5, (.k (.i .i64 0)))])
 (.blk 0 (.loop [0, 1, 5] body24_1)))
 (.seq (.q [(4, (.k (.b true)))])
 (.ret [4])))))⟩
theorem comp24 : compile Tryz.prog Tryz.f24 = some code24 := by kernel_rfl
theorem okf24 : okFn Tryz.prog 24 = true := by kernel_rfl
-- 25: corebank/report.Amount
def body25_1 : C :=
 (.seq (.q [(20, (.op (.bin .lss) [(.sl 19), (.sl 18)]))])
 (.seq (.cond (.sl 20) .skip (.exit 0 []))
 (.seq (.blk 1 (.seq (.s [.ix 21 10 (.t 17) (.t 19), .q 22 (.ld 10 true) [(.t 21)], .alo 10 [(.i .i64 0), (.i .i64 0), (.i .i64 0), (.i .i64 0), (.i .i64 0), (.i .i64 0), (.s []), (.s []), (.l []), (.i .u64 0)], .sto 10 (.t 10) (.t 22)] [21, 22])
 (.seq (.q [(26, (.op (.bin .eql) [(.op (.ld 1 false) [(.op (.fa 0 1) [(.sl 10)])]), (.sl 3)]))])
 (.cond (.sl 26) (.seq (.s [.q 27 (.ld 22 true) [(.t 4)], .q 28 (.ld 3 true) [(.t 5)], .q 29 (.ld 10 true) [(.t 10)], .call (some 30) 19 [(.t 27), (.t 28), (.t 29)], .mv 31 (.t 2), .mget 32 1 (.i .i64 0) (.t 30) (.t 31), .as 8 (.t 32)] [27, 28, 29, 30, 31, 32])
 (.ret [8])) .skip))))
 (.q [(19, (.op (.bin .add) [(.sl 19), (.k (.i .i64 1))]))]))))
def code25 : FCode := ⟨4, [.tmp 8],
 (.seq (.s [.box 4 (.t 0), .box 5 (.t 1), .as 8 (.c (.i .i64 0))] [])
 (.seq (.seq (.q [(15, (.op (.bin .neq) [(.op (.call false 18) [(.op (.ld 22 true) [(.sl 4)]), (.op (.bsl 3) [(.op (.ld 3 true) [(.sl 5)])])]), (.k (.i .i64 0))]))])
 (.cond (.sl 15) (.seq (.q [(8, (.k (.i .i64 0)))])
 (.ret [8])) .skip))
 (.seq (.seq (.s [.fa 16 19 1 (.t 4), .q 17 (.ld 1 false) [(.t 16)], .q 18 .len [(.t 17)], .mv 19 (.c (.i .i64 0))] [16])
 (.blk 0 (.loop [2, 3, 4, 5, 17, 18, 19] body25_1)))
 (.seq (.q [(8, (.k (.i .i64 0)))])
 (.ret [8])))))⟩
theorem comp25 : compile Tryz.prog Tryz.f25 = some code25 := by kernel_rfl
theorem okf25 : okFn Tryz.prog 25 = true := by kernel_rfl
-- 26: corebank/report.Owner
def code26 : FCode := ⟨2, [.tmp 4],
 (.seq (.s [.box 2 (.t 0), .as 4 (.c (.i .i64 0))] [])
 (.seq (.seq (.s [.fa 10 2 1 (.t 2), .q 11 (.ld 1 false) [(.t 10)], .mv 12 (.t 1), .call (some 13) 55 [(.t 11), (.t 12)], .mv 9 (.t 13), .ext 14 0 9, .ext 15 1 9, .alo 5 [(.i .i64 0), (.i .i64 0), (.i .i64 0), (.s [])], .sto 4 (.t 5) (.t 14), .as 6 (.t 15)] [10, 11, 12, 13, 9, 14, 15, 5])
 (.seq (.q [(16, (.sl 6))])
 (.cond (.sl 16) (.seq (.q [(4, (.sl 1))])
 (.ret [4])) .skip)))
 (.seq (.seq (.s [.q 19 (.ld 22 true) [(.t 2)], .mv 20 (.t 1), .call (some 21) 56 [(.t 19), (.t 20)], .mv 18 (.t 21), .ext 22 0 18, .ext 23 1 18, .alo 7 [(.i .i64 0), (.i .i64 0), (.i .i64 0), (.i .i64 0), (.s []), (.s []), (.s [])], .sto 7 (.t 7) (.t 22), .as 8 (.t 23)] [19, 20, 21, 18, 22, 23, 7])
 (.seq (.q [(24, (.sl 8))])
 (.cond (.sl 24) (.seq (.q [(4, (.op (.ld 1 false) [(.op (.fa 1 1) [(.op (.fa 3 14) [(.sl 2)])])]))])
 (.ret [4])) .skip)))
 (.seq (.q [(4, (.k (.i .i64 0)))])
 (.ret [4])))))⟩
theorem comp26 : compile Tryz.prog Tryz.f26 = some code26 := by kernel_rfl
theorem okf26 : okFn Tryz.prog 26 = true := by kernel_rfl
-- 27: corebank/corebankref22.Great
def body27_1 : C :=
 (.seq (.seq (.q [(10, (.op (.bin .lss) [(.sl 3), (.op .len [(.sl 0)])]))])
 (.cond (.sl 10) .skip (.exit 0 [])))
 (.seq (.blk 1 (.seq (.q [(19, (.op (.bin .gtr) [(.op .slen [(.op (.ld 1 false) [(.op (.fa 5 1) [(.op (.ix 6) [(.sl 0), (.sl 3)])])])]), (.k (.i .i64 200))]))])
 (.cond (.sl 19) (.seq (.q [(2, (.k (.b true)))])
 (.ret [2])) .skip)))
 (.q [(3, (.op (.bin .add) [(.sl 3), (.k (.i .i64 1))]))])))
def code27 : FCode := ⟨1, [.tmp 2],
 (.seq (.q [(2, (.k (.b false)))])
 (.seq (.seq (.q [(6, (.op (.bin .gtr) [(.op .len [(.sl 0)]), (.k (.i .i64 100))]))])
 (.cond (.sl 6) (.seq (.q [(2, (.k (.b true)))])
 (.ret [2])) .skip))
 (.seq (.seq (.q [(3, (.k (.i .i64 0)))])
 (.blk 0 (.loop [0, 3] body27_1)))
 (.seq (.q [(2, (.k (.b false)))])
 (.ret [2])))))⟩
theorem comp27 : compile Tryz.prog Tryz.f27 = some code27 := by kernel_rfl
theorem okf27 : okFn Tryz.prog 27 = true := by kernel_rfl
-- 28: corebank/corebankref16.Great
def body28_1 : C :=
 (.seq (.seq (.q [(51, (.op (.bin .lss) [(.sl 3), (.op .len [(.op (.ld 1 false) [(.op (.fa 17 1) [(.sl 1)])])])]))])
 (.cond (.sl 51) .skip (.exit 0 [1])))
 (.seq (.blk 1 (.seq (.q [(79, (.ite (.ite (.op (.bin .gtr) [(.op .slen [(.op (.ld 1 false) [(.op (.fa 0 1) [(.op (.ix 10) [(.op (.ld 1 false) [(.op (.fa 17 1) [(.sl 1)])]), (.sl 3)])])])]), (.k (.i .i64 100))]) (.k (.b true)) (.op (.call false 57) [(.op (.ld 4 true) [(.op (.fa 2 4) [(.op (.ix 10) [(.op (.ld 1 false) [(.op (.fa 17 1) [(.sl 1)])]), (.sl 3)])])]), (.k (.i .i64 100))])) (.k (.b true)) (.op (.call false 57) [(.op (.ld 4 true) [(.op (.fa 6 4) [(.op (.ix 10) [(.op (.ld 1 false) [(.op (.fa 17 1) [(.sl 1)])]), (.sl 3)])])]), (.k (.i .i64 100))])))])
 (.cond (.sl 79) (.seq (.q [(2, (.k (.b true)))])
 (.ret [2])) .skip)))
 (.q [(3, (.op (.bin .add) [(.sl 3), (.k (.i .i64 1))]))])))
def body28_2 : C :=
 (.seq (.seq (.q [(84, (.op (.bin .lss) [(.sl 4), (.op .len [(.op (.ld 1 false) [(.op (.fa 18 1) [(.sl 1)])])])]))])
 (.cond (.sl 84) .skip (.exit 2 [])))
 (.seq (.blk 3 (.seq (.q [(103, (.ite (.op (.bin .gtr) [(.op .slen [(.op (.ld 1 false) [(.op (.fa 0 1) [(.op (.ix 6) [(.op (.ld 1 false) [(.op (.fa 18 1) [(.sl 1)])]), (.sl 4)])])])]), (.k (.i .i64 100))]) (.k (.b true)) (.op (.call false 57) [(.op (.ld 4 true) [(.op (.fa 2 4) [(.op (.ix 6) [(.op (.ld 1 false) [(.op (.fa 18 1) [(.sl 1)])]), (.sl 4)])])]), (.k (.i .i64 100))])))])
 (.cond (.sl 103) (.seq (.q [(2, (.k (.b true)))])
 (.ret [2])) .skip)))
 (.q [(4, (.op (.bin .add) [(.sl 4), (.k (.i .i64 1))]))])))
def code28 : FCode := ⟨1, [.tmp 2],
 (.seq (.s [.box 1 (.t 0), .as 2 (.c (.b false))] [])
 (.seq (.seq (.q [(46, (.ite (.ite (.ite (.ite (.ite (.ite (.op (.bin .gtr) [(.op .slen [(.op (.ld 1 false) [(.op (.fa 0 1) [(.sl 1)])])]), (.k (.i .i64 100))]) (.k (.b true)) (.op (.bin .gtr) [(.op .slen [(.op (.ld 1 false) [(.op (.fa 1 1) [(.sl 1)])])]), (.k (.i .i64 100))])) (.k (.b true)) (.op (.bin .gtr) [(.op .slen [(.op (.ld 1 false) [(.op (.fa 2 1) [(.sl 1)])])]), (.k (.i .i64 100))])) (.k (.b true)) (.op (.bin .gtr) [(.op .len [(.op (.ld 1 false) [(.op (.fa 0 1) [(.op (.fa 7 5) [(.sl 1)])])])]), (.k (.i .i64 20))])) (.k (.b true)) (.op (.bin .gtr) [(.op .len [(.op (.ld 1 false) [(.op (.fa 0 1) [(.op (.fa 12 5) [(.sl 1)])])])]), (.k (.i .i64 20))])) (.k (.b true)) (.op (.bin .gtr) [(.op .len [(.op (.ld 1 false) [(.op (.fa 17 1) [(.sl 1)])])]), (.k (.i .i64 10))])) (.k (.b true)) (.op (.bin .gtr) [(.op .len [(.op (.ld 1 false) [(.op (.fa 18 1) [(.sl 1)])])]), (.k (.i .i64 10))])))])
 (.cond (.sl 46) (.seq (.q [(2, (.k (.b true)))])
 (.ret [2])) .skip))
 (.seq (.seq (.q [(3, (.k (.i .i64 0)))])
 (.blk 0 (.loop [1, 3] body28_1)))
 (.seq (.seq (.q [(4, (.k (.i .i64 0)))])
 (.blk 2 (.loop [1, 4] body28_2)))
 (.seq (.q [(2, (.k (.b false)))])
 (.ret [2]))))))⟩
theorem comp28 : compile Tryz.prog Tryz.f28 = some code28 := by kernel_rfl
theorem okf28 : okFn Tryz.prog 28 = true := by kernel_rfl
-- 29: corebank/corebankref19.Great
def body29_1 : C :=
 (.seq (.seq (.q [(24, (.op (.bin .lss) [(.sl 3), (.op .len [(.op (.ld 1 false) [(.op (.fa 8 1) [(.sl 1)])])])]))])
 (.cond (.sl 24) .skip (.exit 0 [])))
 (.seq (.blk 1 (.seq (.q [(34, (.op (.bin .gtr) [(.op .slen [(.op (.ld 1 false) [(.op (.fa 2 1) [(.op (.ix 3) [(.op (.ld 1 false) [(.op (.fa 8 1) [(.sl 1)])]), (.sl 3)])])])]), (.k (.i .i64 100))]))])
 (.cond (.sl 34) (.seq (.q [(2, (.k (.b true)))])
 (.ret [2])) .skip)))
 (.q [(3, (.op (.bin .add) [(.sl 3), (.k (.i .i64 1))]))])))
def code29 : FCode := ⟨1, [.tmp 2],
 (.seq (.s [.box 1 (.t 0), .as 2 (.c (.b false))] [])
 (.seq (.seq (.q [(19, (.ite (.ite (.op (.bin .gtr) [(.op .len [(.op (.ld 1 false) [(.op (.fa 8 1) [(.sl 1)])])]), (.k (.i .i64 30))]) (.k (.b true)) (.op (.bin .gtr) [(.op .slen [(.op (.ld 1 false) [(.op (.fa 6 1) [(.sl 1)])])]), (.k (.i .i64 1000))])) (.k (.b true)) (.op (.bin .gtr) [(.op .slen [(.op (.ld 1 false) [(.op (.fa 7 1) [(.sl 1)])])]), (.k (.i .i64 1000))])))])
 (.cond (.sl 19) (.seq (.q [(2, (.k (.b true)))])
 (.ret [2])) .skip))
 (.seq (.seq (.q [(3, (.k (.i .i64 0)))])
 (.blk 0 (.loop [1, 3] body29_1)))
 (.seq (.q [(2, (.k (.b false)))])
 (.ret [2])))))⟩
theorem comp29 : compile Tryz.prog Tryz.f29 = some code29 := by kernel_rfl
theorem okf29 : okFn Tryz.prog 29 = true := by kernel_rfl
-- 30: corebank/corebankref03.Code
def body30_1 : C :=
 (.seq (.seq (.q [(8, (.op (.bin .lss) [(.sl 3), (.k (.i .i64 3))]))])
 (.cond (.sl 8) .skip (.exit 0 [])))
 (.seq (.blk 1 (.seq (.q [(20, (.ite (.op (.bin .lss) [(.op .idx [(.sl 0), (.sl 3)]), (.k (.i .u8 65))]) (.k (.b true)) (.op (.bin .gtr) [(.op .idx [(.sl 0), (.sl 3)]), (.k (.i .u8 90))])))])
 (.cond (.sl 20) (.seq (.q [(2, (.k (.b false)))])
 (.ret [2])) .skip)))
 (.q [(3, (.op (.bin .add) [(.sl 3), (.k (.i .i64 1))]))])))
def code30 : FCode := ⟨1, [.tmp 2],
 (.seq (.q [(2, (.k (.b false)))])
 (.seq (.seq (.q [(6, (.op (.bin .neq) [(.op .slen [(.sl 0)]), (.k (.i .i64 3))]))])
 (.cond (.sl 6) (.seq (.q [(2, (.k (.b false)))])
 (.ret [2])) .skip))
 (.seq (.seq (.q [(3, (.k (.i .i64 0)))])
 (.blk 0 (.loop [0, 3] body30_1)))
 (.seq (.q [(2, (.k (.b true)))])
 (.ret [2])))))⟩
theorem comp30 : compile Tryz.prog Tryz.f30 = some code30 := by kernel_rfl
theorem okf30 : okFn Tryz.prog 30 = true := by kernel_rfl
-- 31: corebank/corebankref18.name
def body31_1 : C :=
 (.seq (.seq (.q [(24, (.op (.bin .lss) [(.sl 3), (.op .slen [(.sl 0)])]))])
 (.cond (.sl 24) .skip (.exit 0 [])))
 (.seq (.blk 1 (.seq (.q [(54, (.ite (.ite (.ite (.op (.bin .lss) [(.op .idx [(.sl 0), (.sl 3)]), (.k (.i .u8 97))]) (.k (.b true)) (.op (.bin .gtr) [(.op .idx [(.sl 0), (.sl 3)]), (.k (.i .u8 122))])) (.ite (.op (.bin .lss) [(.op .idx [(.sl 0), (.sl 3)]), (.k (.i .u8 48))]) (.k (.b true)) (.op (.bin .gtr) [(.op .idx [(.sl 0), (.sl 3)]), (.k (.i .u8 57))])) (.k (.b false))) (.op (.bin .neq) [(.op .idx [(.sl 0), (.sl 3)]), (.k (.i .u8 95))]) (.k (.b false))))])
 (.cond (.sl 54) (.seq (.q [(2, (.k (.b false)))])
 (.ret [2])) .skip)))
 (.q [(3, (.op (.bin .add) [(.sl 3), (.k (.i .i64 1))]))])))
def code31 : FCode := ⟨1, [.tmp 2],
 (.seq (.q [(2, (.k (.b false)))])
 (.seq (.seq (.q [(20, (.ite (.ite (.ite (.op (.bin .eql) [(.sl 0), (.k (.s []))]) (.k (.b true)) (.op (.bin .gtr) [(.op .slen [(.sl 0)]), (.k (.i .i64 16))])) (.k (.b true)) (.op (.bin .lss) [(.op .idx [(.sl 0), (.k (.i .i64 0))]), (.k (.i .u8 97))])) (.k (.b true)) (.op (.bin .gtr) [(.op .idx [(.sl 0), (.k (.i .i64 0))]), (.k (.i .u8 122))])))])
 (.cond (.sl 20) (.seq (.q [(2, (.k (.b false)))])
 (.ret [2])) .skip))
 (.seq (.seq (.q [(3, (.k (.i .i64 1)))])
 (.blk 0 (.loop [0, 3] body31_1)))
 (.seq (.q [(2, (.k (.b true)))])
 (.ret [2])))))⟩
theorem comp31 : compile Tryz.prog Tryz.f31 = some code31 := by kernel_rfl
theorem okf31 : okFn Tryz.prog 31 = true := by kernel_rfl
-- 32: corebank/corebankref18.Find
def body32_1 : C :=
 (.seq (.seq (.q [(10, (.op (.bin .lss) [(.sl 6), (.op .len [(.sl 0)])]))])
 (.cond (.sl 10) .skip (.exit 0 [4])))
 (.seq (.blk 1 (.seq (.q [(19, (.op (.bin .eql) [(.op (.ld 1 false) [(.op (.fa 0 1) [(.op (.ix 4) [(.sl 0), (.sl 6)])])]), (.sl 1)]))])
 (.cond (.sl 19) (.seq (.s [.mv 20 (.t 0), .mv 21 (.t 6), .ix 22 4 (.t 20) (.t 21), .q 23 (.ld 4 true) [(.t 22)], .sto 4 (.t 4) (.t 23), .as 5 (.c (.b true))] [20, 21, 22, 23])
 (.ret [4, 5])) .skip)))
 (.q [(6, (.op (.bin .add) [(.sl 6), (.k (.i .i64 1))]))])))
def code32 : FCode := ⟨2, [.cell 4 4 true, .tmp 5],
 (.seq (.s [.alo 4 [(.i .i64 0), (.i .i64 0), (.i .i64 0), (.s [])], .as 5 (.c (.b false))] [])
 (.seq (.seq (.q [(6, (.k (.i .i64 0)))])
 (.blk 0 (.loop [0, 1, 4, 6] body32_1)))
 (.seq (.s [.bld 24 [(.i .i64 0), (.i .i64 0), (.i .i64 0), (.s [])] [] [], .sto 4 (.t 4) (.t 24), .as 5 (.c (.b false))] [24])
 (.ret [4, 5]))))⟩
theorem comp32 : compile Tryz.prog Tryz.f32 = some code32 := by kernel_rfl
theorem okf32 : okFn Tryz.prog 32 = true := by kernel_rfl
-- 33: corebank/corebankref18.used
def code33 : FCode := ⟨3, [.tmp 6],
 (.seq (.q [(6, (.k (.i .i64 0)))])
 (.seq (.s [.mv 10 (.t 0), .mv 11 (.t 1), .call (some 12) 32 [(.t 10), (.t 11)], .mv 9 (.t 12), .ext 13 0 9, .ext 14 1 9, .alo 7 [(.i .i64 0), (.i .i64 0), (.i .i64 0), (.s [])], .sto 4 (.t 7) (.t 13), .as 8 (.t 14)] [10, 11, 12, 9, 13, 14])
 (.seq (.seq (.q [(21, (.ite (.op (.un .not) [(.sl 8)]) (.k (.b true)) (.op (.call false 58) [(.sl 0), (.sl 1)])))])
 (.cond (.sl 21) (.seq (.q [(6, (.k (.i .i64 11)))])
 (.ret [6])) .skip))
 (.seq (.seq (.q [(25, (.op (.bin .neq) [(.op (.ld 1 false) [(.op (.fa 2 1) [(.sl 7)])]), (.sl 2)]))])
 (.cond (.sl 25) (.seq (.q [(6, (.k (.i .i64 3)))])
 (.ret [6])) .skip))
 (.seq (.q [(6, (.k (.i .i64 0)))])
 (.ret [6]))))))⟩
theorem comp33 : compile Tryz.prog Tryz.f33 = some code33 := by kernel_rfl
theorem okf33 : okFn Tryz.prog 33 = true := by kernel_rfl
-- 34: corebank/corebankref17.before
def code34 : FCode := ⟨2, [.tmp 4],
 (.seq (.s [.box 2 (.t 0), .box 3 (.t 1), .as 4 (.c (.b false))] [])
 (.seq (.q [(4, (.ite (.op (.bin .lss) [(.op (.ld 1 false) [(.op (.fa 0 1) [(.sl 2)])]), (.op (.ld 1 false) [(.op (.fa 0 1) [(.sl 3)])])]) (.k (.b true)) (.ite (.op (.bin .eql) [(.op (.ld 1 false) [(.op (.fa 0 1) [(.sl 2)])]), (.op (.ld 1 false) [(.op (.fa 0 1) [(.sl 3)])])]) (.op (.bin .lss) [(.op (.ld 1 false) [(.op (.fa 3 1) [(.sl 2)])]), (.op (.ld 1 false) [(.op (.fa 3 1) [(.sl 3)])])]) (.k (.b false)))))])
 (.ret [4])))⟩
theorem comp34 : compile Tryz.prog Tryz.f34 = some code34 := by kernel_rfl
theorem okf34 : okFn Tryz.prog 34 = true := by kernel_rfl
-- 35: corebank/corebankref05.Name
def body35_1 : C :=
 (.seq (.seq (.q [(25, (.op (.bin .lss) [(.sl 3), (.op .slen [(.sl 0)])]))])
 (.cond (.sl 25) .skip (.exit 0 [])))
 (.seq (.blk 1 (.seq (.q [(55, (.ite (.ite (.ite (.op (.bin .lss) [(.op .idx [(.sl 0), (.sl 3)]), (.k (.i .u8 97))]) (.k (.b true)) (.op (.bin .gtr) [(.op .idx [(.sl 0), (.sl 3)]), (.k (.i .u8 122))])) (.ite (.op (.bin .lss) [(.op .idx [(.sl 0), (.sl 3)]), (.k (.i .u8 48))]) (.k (.b true)) (.op (.bin .gtr) [(.op .idx [(.sl 0), (.sl 3)]), (.k (.i .u8 57))])) (.k (.b false))) (.op (.bin .neq) [(.op .idx [(.sl 0), (.sl 3)]), (.k (.i .u8 95))]) (.k (.b false))))])
 (.cond (.sl 55) (.seq (.q [(2, (.k (.b false)))])
 (.ret [2])) .skip)))
 (.q [(3, (.op (.bin .add) [(.sl 3), (.k (.i .i64 1))]))])))
def code35 : FCode := ⟨1, [.tmp 2],
 (.seq (.q [(2, (.k (.b false)))])
 (.seq (.seq (.q [(21, (.ite (.ite (.ite (.op (.bin .lss) [(.op .slen [(.sl 0)]), (.k (.i .i64 1))]) (.k (.b true)) (.op (.bin .gtr) [(.op .slen [(.sl 0)]), (.k (.i .i64 16))])) (.k (.b true)) (.op (.bin .lss) [(.op .idx [(.sl 0), (.k (.i .i64 0))]), (.k (.i .u8 97))])) (.k (.b true)) (.op (.bin .gtr) [(.op .idx [(.sl 0), (.k (.i .i64 0))]), (.k (.i .u8 122))])))])
 (.cond (.sl 21) (.seq (.q [(2, (.k (.b false)))])
 (.ret [2])) .skip))
 (.seq (.seq (.q [(3, (.k (.i .i64 0)))])
 (.blk 0 (.loop [0, 3] body35_1)))
 (.seq (.q [(2, (.k (.b true)))])
 (.ret [2])))))⟩
theorem comp35 : compile Tryz.prog Tryz.f35 = some code35 := by kernel_rfl
theorem okf35 : okFn Tryz.prog 35 = true := by kernel_rfl
-- 36: corebank/corebankref05.Rises
def body36_1 : C :=
 (.seq (.seq (.q [(7, (.op (.bin .lss) [(.sl 3), (.op .len [(.sl 0)])]))])
 (.cond (.sl 7) .skip (.exit 0 [])))
 (.seq (.blk 1 (.seq (.q [(19, (.op (.bin .leq) [(.op (.ld 1 false) [(.op (.ix 1) [(.sl 0), (.sl 3)])]), (.op (.ld 1 false) [(.op (.ix 1) [(.sl 0), (.op (.bin .sub) [(.sl 3), (.k (.i .i64 1))])])])]))])
 (.cond (.sl 19) (.seq (.q [(2, (.k (.b false)))])
 (.ret [2])) .skip)))
 (.q [(3, (.op (.bin .add) [(.sl 3), (.k (.i .i64 1))]))])))
def code36 : FCode := ⟨1, [.tmp 2],
 (.seq (.q [(2, (.k (.b false)))])
 (.seq (.seq (.q [(3, (.k (.i .i64 1)))])
 (.blk 0 (.loop [0, 3] body36_1)))
 (.seq (.q [(2, (.k (.b true)))])
 (.ret [2]))))⟩
theorem comp36 : compile Tryz.prog Tryz.f36 = some code36 := by kernel_rfl
theorem okf36 : okFn Tryz.prog 36 = true := by kernel_rfl
-- 37: corebank/corebankref04.Valid
def code37 : FCode := ⟨1, [.tmp 2],
 (.seq (.q [(2, (.k (.b false)))])
 (.seq (.q [(2, (.ite (.op (.bin .geq) [(.sl 0), (.k (.i .i64 0))]) (.op (.bin .leq) [(.sl 0), (.k (.i .i64 73048))]) (.k (.b false))))])
 (.ret [2])))⟩
theorem comp37 : compile Tryz.prog Tryz.f37 = some code37 := by kernel_rfl
theorem okf37 : okFn Tryz.prog 37 = true := by kernel_rfl
-- 38: corebank/corebankref15.Name
def body38_1 : C :=
 (.seq (.seq (.q [(24, (.op (.bin .lss) [(.sl 3), (.op .slen [(.sl 0)])]))])
 (.cond (.sl 24) .skip (.exit 0 [])))
 (.seq (.blk 1 (.seq (.q [(54, (.ite (.ite (.ite (.op (.bin .lss) [(.op .idx [(.sl 0), (.sl 3)]), (.k (.i .u8 97))]) (.k (.b true)) (.op (.bin .gtr) [(.op .idx [(.sl 0), (.sl 3)]), (.k (.i .u8 122))])) (.ite (.op (.bin .lss) [(.op .idx [(.sl 0), (.sl 3)]), (.k (.i .u8 48))]) (.k (.b true)) (.op (.bin .gtr) [(.op .idx [(.sl 0), (.sl 3)]), (.k (.i .u8 57))])) (.k (.b false))) (.op (.bin .neq) [(.op .idx [(.sl 0), (.sl 3)]), (.k (.i .u8 95))]) (.k (.b false))))])
 (.cond (.sl 54) (.seq (.q [(2, (.k (.b false)))])
 (.ret [2])) .skip)))
 (.q [(3, (.op (.bin .add) [(.sl 3), (.k (.i .i64 1))]))])))
def code38 : FCode := ⟨1, [.tmp 2],
 (.seq (.q [(2, (.k (.b false)))])
 (.seq (.seq (.q [(20, (.ite (.ite (.ite (.op (.bin .eql) [(.sl 0), (.k (.s []))]) (.k (.b true)) (.op (.bin .gtr) [(.op .slen [(.sl 0)]), (.k (.i .i64 16))])) (.k (.b true)) (.op (.bin .lss) [(.op .idx [(.sl 0), (.k (.i .i64 0))]), (.k (.i .u8 97))])) (.k (.b true)) (.op (.bin .gtr) [(.op .idx [(.sl 0), (.k (.i .i64 0))]), (.k (.i .u8 122))])))])
 (.cond (.sl 20) (.seq (.q [(2, (.k (.b false)))])
 (.ret [2])) .skip))
 (.seq (.seq (.q [(3, (.k (.i .i64 1)))])
 (.blk 0 (.loop [0, 3] body38_1)))
 (.seq (.q [(2, (.k (.b true)))])
 (.ret [2])))))⟩
theorem comp38 : compile Tryz.prog Tryz.f38 = some code38 := by kernel_rfl
theorem okf38 : okFn Tryz.prog 38 = true := by kernel_rfl
-- 39: corebank/corebankref03.Find
def body39_1 : C :=
 (.seq (.seq (.q [(10, (.op (.bin .lss) [(.sl 6), (.op .len [(.sl 0)])]))])
 (.cond (.sl 10) .skip (.exit 0 [4])))
 (.seq (.blk 1 (.seq (.q [(19, (.op (.bin .eql) [(.op (.ld 1 false) [(.op (.fa 0 1) [(.op (.ix 2) [(.sl 0), (.sl 6)])])]), (.sl 1)]))])
 (.cond (.sl 19) (.seq (.s [.mv 20 (.t 0), .mv 21 (.t 6), .ix 22 2 (.t 20) (.t 21), .q 23 (.ld 2 true) [(.t 22)], .sto 2 (.t 4) (.t 23), .as 5 (.c (.b true))] [20, 21, 22, 23])
 (.ret [4, 5])) .skip)))
 (.q [(6, (.op (.bin .add) [(.sl 6), (.k (.i .i64 1))]))])))
def code39 : FCode := ⟨2, [.cell 4 2 true, .tmp 5],
 (.seq (.s [.alo 4 [(.s []), (.i .i64 0)], .as 5 (.c (.b false))] [])
 (.seq (.seq (.q [(6, (.k (.i .i64 0)))])
 (.blk 0 (.loop [0, 1, 4, 6] body39_1)))
 (.seq (.s [.bld 24 [(.s []), (.i .i64 0)] [] [], .sto 2 (.t 4) (.t 24), .as 5 (.c (.b false))] [24])
 (.ret [4, 5]))))⟩
theorem comp39 : compile Tryz.prog Tryz.f39 = some code39 := by kernel_rfl
theorem okf39 : okFn Tryz.prog 39 = true := by kernel_rfl
-- 40: corebank/corebankref05.Find
def body40_1 : C :=
 (.seq (.seq (.q [(10, (.op (.bin .lss) [(.sl 6), (.op .len [(.sl 0)])]))])
 (.cond (.sl 10) .skip (.exit 0 [4])))
 (.seq (.blk 1 (.seq (.q [(19, (.op (.bin .eql) [(.op (.ld 1 false) [(.op (.fa 0 1) [(.op (.ix 3) [(.sl 0), (.sl 6)])])]), (.sl 1)]))])
 (.cond (.sl 19) (.seq (.s [.mv 20 (.t 0), .mv 21 (.t 6), .ix 22 3 (.t 20) (.t 21), .q 23 (.ld 3 true) [(.t 22)], .sto 3 (.t 4) (.t 23), .as 5 (.c (.b true))] [20, 21, 22, 23])
 (.ret [4, 5])) .skip)))
 (.q [(6, (.op (.bin .add) [(.sl 6), (.k (.i .i64 1))]))])))
def code40 : FCode := ⟨2, [.cell 4 3 true, .tmp 5],
 (.seq (.s [.alo 4 [(.s []), (.l []), (.l [])], .as 5 (.c (.b false))] [])
 (.seq (.seq (.q [(6, (.k (.i .i64 0)))])
 (.blk 0 (.loop [0, 1, 4, 6] body40_1)))
 (.seq (.s [.bld 24 [(.s []), (.l []), (.l [])] [] [], .sto 3 (.t 4) (.t 24), .as 5 (.c (.b false))] [24])
 (.ret [4, 5]))))⟩
theorem comp40 : compile Tryz.prog Tryz.f40 = some code40 := by kernel_rfl
theorem okf40 : okFn Tryz.prog 40 = true := by kernel_rfl
-- 41: corebank/corebankref15.interest
def code41 : FCode := ⟨1, [.tmp 2],
 (.seq (.s [.box 1 (.t 0), .as 2 (.c (.i .i64 0))] [])
 (.seq (.seq (.q [(3, (.op (.call false 59) [(.op (.ld 1 false) [(.op (.fa 0 1) [(.sl 1)])])]))])
 (.seq (.q [(8, (.op (.bin .neq) [(.sl 3), (.k (.i .i64 0))]))])
 (.cond (.sl 8) (.seq (.q [(2, (.sl 3))])
 (.ret [2])) .skip)))
 (.seq (.seq (.q [(27, (.ite (.ite (.ite (.op (.bin .lss) [(.op (.ld 1 false) [(.op (.fa 2 1) [(.sl 1)])]), (.k (.i .i64 1))]) (.k (.b true)) (.op (.bin .gtr) [(.op (.ld 1 false) [(.op (.fa 2 1) [(.sl 1)])]), (.k (.i .i64 4))])) (.k (.b true)) (.op (.bin .lss) [(.op (.ld 1 false) [(.op (.fa 3 1) [(.sl 1)])]), (.k (.i .i64 1))])) (.k (.b true)) (.op (.bin .gtr) [(.op (.ld 1 false) [(.op (.fa 3 1) [(.sl 1)])]), (.k (.i .i64 6))])))])
 (.cond (.sl 27) (.seq (.q [(2, (.k (.i .i64 1)))])
 (.ret [2])) .skip))
 (.seq (.q [(2, (.k (.i .i64 0)))])
 (.ret [2])))))⟩
theorem comp41 : compile Tryz.prog Tryz.f41 = some code41 := by kernel_rfl
theorem okf41 : okFn Tryz.prog 41 = true := by kernel_rfl
-- 42: corebank/corebankref15.fee
def code42 : FCode := ⟨1, [.tmp 2],
 (.seq (.s [.box 1 (.t 0), .as 2 (.c (.i .i64 0))] [])
 (.seq (.seq (.q [(7, (.op (.un .not) [(.op (.call false 38) [(.op (.ld 1 false) [(.op (.fa 0 1) [(.sl 1)])])])]))])
 (.cond (.sl 7) (.seq (.q [(2, (.k (.i .i64 4)))])
 (.ret [2])) .skip))
 (.seq (.seq (.q [(15, (.ite (.op (.bin .lss) [(.op (.ld 1 false) [(.op (.fa 1 1) [(.sl 1)])]), (.k (.i .i64 1))]) (.k (.b true)) (.op (.bin .gtr) [(.op (.ld 1 false) [(.op (.fa 1 1) [(.sl 1)])]), (.k (.i .i64 4))])))])
 (.cond (.sl 15) (.seq (.q [(2, (.k (.i .i64 1)))])
 (.ret [2])) .skip))
 (.seq (.seq (.q [(3, (.op (.call false 60) [(.op (.ld 4 true) [(.op (.fa 2 4) [(.sl 1)])]), (.op (.call false 61) []), (.k (.i .i64 5))]))])
 (.seq (.q [(21, (.op (.bin .neq) [(.sl 3), (.k (.i .i64 0))]))])
 (.cond (.sl 21) (.seq (.q [(2, (.sl 3))])
 (.ret [2])) .skip)))
 (.seq (.q [(2, (.op (.call false 60) [(.op (.ld 4 true) [(.op (.fa 6 4) [(.sl 1)])]), (.op (.call false 61) []), (.k (.i .i64 2))]))])
 (.ret [2]))))))⟩
theorem comp42 : compile Tryz.prog Tryz.f42 = some code42 := by kernel_rfl
theorem okf42 : okFn Tryz.prog 42 = true := by kernel_rfl
-- 43: corebank/corebankref15.rule
def code43 : FCode := ⟨1, [.tmp 2],
 (.seq (.s [.box 1 (.t 0), .as 2 (.c (.i .i64 0))] [])
 (.seq (.seq (.q [(6, (.op (.un .not) [(.op (.call false 38) [(.op (.ld 1 false) [(.op (.fa 0 1) [(.sl 1)])])])]))])
 (.cond (.sl 6) (.seq (.q [(2, (.k (.i .i64 4)))])
 (.ret [2])) .skip))
 (.seq (.seq (.q [(14, (.ite (.op (.bin .lss) [(.op (.ld 1 false) [(.op (.fa 1 1) [(.sl 1)])]), (.k (.i .i64 1))]) (.k (.b true)) (.op (.bin .gtr) [(.op (.ld 1 false) [(.op (.fa 1 1) [(.sl 1)])]), (.k (.i .i64 3))])))])
 (.cond (.sl 14) (.seq (.q [(2, (.k (.i .i64 1)))])
 (.ret [2])) .skip))
 (.seq (.q [(2, (.op (.call false 60) [(.op (.ld 4 true) [(.op (.fa 2 4) [(.sl 1)])]), (.op (.call false 61) []), (.k (.i .i64 2))]))])
 (.ret [2])))))⟩
theorem comp43 : compile Tryz.prog Tryz.f43 = some code43 := by kernel_rfl
theorem okf43 : okFn Tryz.prog 43 = true := by kernel_rfl
-- 44: corebank/corebankref24.shaped
def code44 : FCode := ⟨1, [.tmp 2],
 (.seq (.s [.box 1 (.t 0), .as 2 (.c (.b false))] [])
 (.seq (.q [(2, (.ite (.ite (.ite (.op (.bin .geq) [(.op (.ld 1 false) [(.op (.fa 0 1) [(.sl 1)])]), (.k (.i .i64 1000))]) (.op (.bin .leq) [(.op (.ld 1 false) [(.op (.fa 0 1) [(.sl 1)])]), (.k (.i .i64 99999999))]) (.k (.b false))) (.op (.call true 37) [(.op (.ld 1 false) [(.op (.fa 1 1) [(.sl 1)])])]) (.k (.b false))) (.op (.bin .eql) [(.op (.ld 1 false) [(.op (.fa 6 1) [(.sl 1)])]), (.op (.call true 62) [(.op (.ld 1 false) [(.op (.fa 0 1) [(.sl 1)])])])]) (.k (.b false))))])
 (.ret [2])))⟩
theorem comp44 : compile Tryz.prog Tryz.f44 = some code44 := by kernel_rfl
theorem okf44 : okFn Tryz.prog 44 = true := by kernel_rfl
-- 45: corebank/corebankref24.owned
def code45 : FCode := ⟨2, [.tmp 4],
 (.seq (.s [.box 2 (.t 0), .box 3 (.t 1), .as 4 (.c (.i .i64 0))] [])
 (.seq (.seq (.q [(10, (.op (.un .not) [(.op (.call false 38) [(.op (.ld 1 false) [(.op (.fa 4 1) [(.sl 3)])])])]))])
 (.cond (.sl 10) (.seq (.q [(4, (.k (.i .i64 4)))])
 (.ret [4])) .skip))
 (.seq (.seq (.s [.fa 12 17 1 (.t 2), .q 13 (.ld 1 false) [(.t 12)], .fa 14 5 1 (.t 3), .q 15 (.ld 1 false) [(.t 14)], .fa 16 1 1 (.t 3), .q 17 (.ld 1 false) [(.t 16)], .call (some 18) 63 [(.t 13), (.t 15), (.t 17)], .mv 11 (.t 18), .ext 19 0 11, .ext 20 1 11, .alo 5 [(.s []), (.s []), (.s []), (.i .i64 0), (.i .i64 0), (.i .i64 0), (.i .i64 0), (.l []), (.b false), (.i .i64 0), (.i .i64 0), (.b false), (.l []), (.b false), (.i .i64 0), (.i .i64 0), (.b false), (.l []), (.l [])], .sto 19 (.t 5) (.t 19), .as 6 (.t 20)] [12, 13, 14, 15, 16, 17, 18, 11, 19, 20, 5])
 (.seq (.q [(22, (.op (.un .not) [(.sl 6)]))])
 (.cond (.sl 22) (.seq (.q [(4, (.k (.i .i64 11)))])
 (.ret [4])) .skip)))
 (.seq (.q [(4, (.k (.i .i64 0)))])
 (.ret [4])))))⟩
theorem comp45 : compile Tryz.prog Tryz.f45 = some code45 := by kernel_rfl
theorem okf45 : okFn Tryz.prog 45 = true := by kernel_rfl
-- 46: corebank/corebankref19.Check
def body46_1 : C :=
 (.seq (.seq (.q [(72, (.op (.bin .lss) [(.sl 3), (.op .len [(.op (.ld 1 false) [(.op (.fa 8 1) [(.sl 1)])])])]))])
 (.cond (.sl 72) .skip (.exit 0 [1])))
 (.seq (.blk 1 (.seq (.q [(4, (.op (.call false 66) [(.op (.ld 3 true) [(.op (.ix 3) [(.op (.ld 1 false) [(.op (.fa 8 1) [(.sl 1)])]), (.sl 3)])])]))])
 (.seq (.q [(82, (.op (.bin .neq) [(.sl 4), (.k (.i .i64 0))]))])
 (.cond (.sl 82) (.seq (.q [(2, (.sl 4))])
 (.ret [2])) .skip))))
 (.q [(3, (.op (.bin .add) [(.sl 3), (.k (.i .i64 1))]))])))
def body46_2 : C :=
 (.seq (.seq (.q [(90, (.op (.bin .lss) [(.sl 6), (.op .len [(.sl 5)])]))])
 (.cond (.sl 90) .skip (.exit 2 [])))
 (.seq (.blk 3 (.seq (.q [(98, (.op (.bin .neq) [(.op (.ld 1 false) [(.op (.fa 1 1) [(.op (.ix 2) [(.sl 5), (.sl 6)])])]), (.k (.i .i64 0))]))])
 (.cond (.sl 98) (.seq (.q [(2, (.k (.i .i64 15)))])
 (.ret [2])) .skip)))
 (.q [(6, (.op (.bin .add) [(.sl 6), (.k (.i .i64 1))]))])))
def code46 : FCode := ⟨1, [.tmp 2],
 (.seq (.s [.box 1 (.t 0), .as 2 (.c (.i .i64 0))] [])
 (.seq (.seq (.q [(10, (.op (.un .not) [(.op (.call false 64) [(.op (.ld 1 false) [(.op (.fa 6 1) [(.sl 1)])])])]))])
 (.cond (.sl 10) (.seq (.q [(2, (.k (.i .i64 4)))])
 (.ret [2])) .skip))
 (.seq (.seq (.q [(57, (.ite (.ite (.ite (.ite (.ite (.ite (.ite (.op (.un .not) [(.op (.call false 65) [(.op (.ld 1 false) [(.op (.fa 7 1) [(.sl 1)])]), (.k (.i .i64 64)), (.k (.i .u8 32))])]) (.k (.b true)) (.op (.un .not) [(.op (.call false 37) [(.op (.ld 1 false) [(.op (.fa 1 1) [(.sl 1)])])])])) (.k (.b true)) (.op (.un .not) [(.op (.call false 37) [(.op (.ld 1 false) [(.op (.fa 2 1) [(.sl 1)])])])])) (.k (.b true)) (.op (.bin .lss) [(.op (.ld 1 false) [(.op (.fa 3 1) [(.sl 1)])]), (.k (.i .i64 1))])) (.k (.b true)) (.op (.bin .gtr) [(.op (.ld 1 false) [(.op (.fa 3 1) [(.sl 1)])]), (.k (.i .i64 14))])) (.k (.b true)) (.op (.bin .lss) [(.op (.ld 1 false) [(.op (.fa 4 1) [(.sl 1)])]), (.k (.i .i64 0))])) (.k (.b true)) (.op (.bin .gtr) [(.op (.ld 1 false) [(.op (.fa 4 1) [(.sl 1)])]), (.k (.i .i64 3))])) (.k (.b true)) (.ite (.op (.bin .neq) [(.op (.ld 1 false) [(.op (.fa 5 1) [(.sl 1)])]), (.k (.i .i64 0))]) (.op (.un .not) [(.op (.call false 37) [(.op (.ld 1 false) [(.op (.fa 5 1) [(.sl 1)])])])]) (.k (.b false)))))])
 (.cond (.sl 57) (.seq (.q [(2, (.k (.i .i64 1)))])
 (.ret [2])) .skip))
 (.seq (.seq (.q [(67, (.ite (.op (.bin .lss) [(.op .len [(.op (.ld 1 false) [(.op (.fa 8 1) [(.sl 1)])])]), (.k (.i .i64 2))]) (.k (.b true)) (.op (.bin .gtr) [(.op .len [(.op (.ld 1 false) [(.op (.fa 8 1) [(.sl 1)])])]), (.k (.i .i64 12))])))])
 (.cond (.sl 67) (.seq (.q [(2, (.k (.i .i64 5)))])
 (.ret [2])) .skip))
 (.seq (.seq (.q [(3, (.k (.i .i64 0)))])
 (.blk 0 (.loop [1, 3] body46_1)))
 (.seq (.s [.fa 84 8 1 (.t 1), .q 85 (.ld 1 false) [(.t 84)], .call (some 86) 67 [(.t 85)], .as 5 (.t 86)] [84, 85, 86])
 (.seq (.seq (.q [(6, (.k (.i .i64 0)))])
 (.blk 2 (.loop [5, 6] body46_2)))
 (.seq (.q [(2, (.k (.i .i64 0)))])
 (.ret [2])))))))))⟩
theorem comp46 : compile Tryz.prog Tryz.f46 = some code46 := by kernel_rfl
theorem okf46 : okFn Tryz.prog 46 = true := by kernel_rfl
-- 47: corebank/corebankref25.legs
def body47_1 : C :=
 (.seq (.seq (.q [(17, (.op (.bin .lss) [(.sl 5), (.op .len [(.op (.ld 1 false) [(.op (.fa 8 1) [(.sl 3)])])])]))])
 (.cond (.sl 17) .skip (.exit 0 [])))
 (.seq (.blk 1 (.seq (.s [.fa 20 8 1 (.t 3), .q 21 (.ld 1 false) [(.t 20)], .mv 22 (.t 5), .ix 23 3 (.t 21) (.t 22), .q 24 (.ld 3 true) [(.t 23)], .alo 6 [(.i .i64 0), (.i .i64 0), (.s [])], .sto 3 (.t 6) (.t 24)] [20, 21, 22, 23, 24])
 (.seq (.seq (.s [.fa 26 0 1 (.t 2), .q 27 (.ld 1 false) [(.t 26)], .fa 28 2 1 (.t 6), .q 29 (.ld 1 false) [(.t 28)], .call (some 30) 39 [(.t 27), (.t 29)], .mv 25 (.t 30), .ext 31 0 25, .ext 32 1 25, .alo 7 [(.s []), (.i .i64 0)], .sto 2 (.t 7) (.t 31), .as 8 (.t 32)] [26, 27, 28, 29, 30, 25, 31, 32, 7])
 (.seq (.q [(34, (.op (.un .not) [(.sl 8)]))])
 (.cond (.sl 34) (.seq (.q [(4, (.k (.b false)))])
 (.ret [4])) .skip)))
 (.seq (.seq (.q [(37, (.op (.bin .lss) [(.op (.ld 1 false) [(.op (.fa 0 1) [(.sl 6)])]), (.k (.i .i64 1000))]))])
 (.cond (.sl 37) (.seq (.s [.fa 39 2 1 (.t 2), .q 40 (.ld 1 false) [(.t 39)], .fa 41 0 1 (.t 6), .q 42 (.ld 1 false) [(.t 41)], .call (some 43) 32 [(.t 40), (.t 42)], .mv 38 (.t 43), .ext 44 0 38, .ext 45 1 38, .alo 9 [(.i .i64 0), (.i .i64 0), (.i .i64 0), (.s [])], .sto 4 (.t 9) (.t 44), .as 10 (.t 45)] [39, 40, 41, 42, 43, 38, 44, 45, 9])
 (.seq (.seq (.q [(68, (.ite (.ite (.op (.un .not) [(.sl 10)]) (.k (.b true)) (.op (.bin .neq) [(.op .len [(.op (.call false 68) [(.op (.ld 1 false) [(.op (.fa 2 1) [(.sl 2)])]), (.op (.ld 1 false) [(.op (.fa 0 1) [(.sl 6)])])])]), (.k (.i .i64 1))])) (.k (.b true)) (.op (.bin .neq) [(.op (.ld 1 false) [(.op (.ix 1) [(.op (.call false 68) [(.op (.ld 1 false) [(.op (.fa 2 1) [(.sl 2)])]), (.op (.ld 1 false) [(.op (.fa 0 1) [(.sl 6)])])]), (.k (.i .i64 0))])]), (.op (.ld 1 false) [(.op (.fa 0 1) [(.sl 6)])])])))])
 (.cond (.sl 68) (.seq (.q [(4, (.k (.b false)))])
 (.ret [4])) .skip))
 (.exit 1 [2, 3, 5]))) .skip))
 (.seq (.s [.q 70 (.ld 22 true) [(.t 2)], .fa 71 0 1 (.t 6), .q 72 (.ld 1 false) [(.t 71)], .fa 73 1 1 (.t 3), .q 74 (.ld 1 false) [(.t 73)], .call (some 75) 69 [(.t 70), (.t 72), (.t 74)], .mv 69 (.t 75), .ext 76 0 69, .ext 77 1 69, .alo 11 [(.s []), (.s []), (.s []), (.i .i64 0), (.i .i64 0), (.i .i64 0), (.i .i64 0), (.l []), (.b false), (.i .i64 0), (.i .i64 0), (.b false), (.l []), (.b false), (.i .i64 0), (.i .i64 0), (.b false), (.l []), (.l [])], .sto 19 (.t 11) (.t 76), .as 12 (.t 77)] [70, 71, 72, 73, 74, 75, 69, 76, 77])
 (.seq (.q [(95, (.ite (.ite (.op (.un .not) [(.sl 12)]) (.k (.b true)) (.op (.bin .neq) [(.op (.ld 1 false) [(.op (.fa 1 1) [(.sl 11)])]), (.op (.ld 1 false) [(.op (.fa 2 1) [(.sl 6)])])])) (.k (.b true)) (.op (.un .not) [(.op (.call false 70) [(.op (.ld 22 true) [(.sl 2)]), (.op (.ld 1 false) [(.op (.fa 0 1) [(.sl 6)])]), (.op (.ld 1 false) [(.op (.fa 1 1) [(.sl 3)])])])])))])
 (.cond (.sl 95) (.seq (.q [(4, (.k (.b false)))])
 (.ret [4])) .skip)))))))
 (.q [(5, (.op (.bin .add) [(.sl 5), (.k (.i .i64 1))]))])))
def code47 : FCode := ⟨2, [.tmp 4],
 (.seq (.s [.box 2 (.t 0), .box 3 (.t 1), .as 4 (.c (.b false))] [])
 (.seq (.seq (.q [(5, (.k (.i .i64 0)))])
 (.blk 0 (.loop [2, 3, 5] body47_1)))
 (.seq (.q [(4, (.k (.b true)))])
 (.ret [4]))))⟩
theorem comp47 : compile Tryz.prog Tryz.f47 = some code47 := by kernel_rfl
theorem okf47 : okFn Tryz.prog 47 = true := by kernel_rfl
-- 48: corebank/corebankref22.one
def code48 : FCode := ⟨1, [.tmp 2],
 (.seq (.s [.box 1 (.t 0), .as 2 (.c (.i .i64 0))] [])
 (.seq (.seq (.q [(39, (.ite (.ite (.ite (.ite (.ite (.ite (.op (.bin .lss) [(.op (.ld 1 false) [(.op (.fa 0 1) [(.sl 1)])]), (.k (.i .i64 1))]) (.k (.b true)) (.op (.bin .lss) [(.op (.ld 1 false) [(.op (.fa 1 1) [(.sl 1)])]), (.k (.i .i64 1000))])) (.k (.b true)) (.op (.bin .lss) [(.op (.ld 1 false) [(.op (.fa 2 1) [(.sl 1)])]), (.k (.i .i64 1))])) (.k (.b true)) (.op (.bin .gtr) [(.op (.ld 1 false) [(.op (.fa 2 1) [(.sl 1)])]), (.k (.i .i64 1000000000000))])) (.k (.b true)) (.op (.un .not) [(.op (.call false 37) [(.op (.ld 1 false) [(.op (.fa 3 1) [(.sl 1)])])])])) (.k (.b true)) (.op (.un .not) [(.op (.call false 37) [(.op (.ld 1 false) [(.op (.fa 4 1) [(.sl 1)])])])])) (.k (.b true)) (.op (.bin .lss) [(.op (.ld 1 false) [(.op (.fa 4 1) [(.sl 1)])]), (.op (.ld 1 false) [(.op (.fa 3 1) [(.sl 1)])])])))])
 (.cond (.sl 39) (.seq (.q [(2, (.k (.i .i64 1)))])
 (.ret [2])) .skip))
 (.seq (.seq (.q [(43, (.op (.un .not) [(.op (.call false 64) [(.op (.ld 1 false) [(.op (.fa 5 1) [(.sl 1)])])])]))])
 (.cond (.sl 43) (.seq (.q [(2, (.k (.i .i64 4)))])
 (.ret [2])) .skip))
 (.seq (.q [(2, (.k (.i .i64 0)))])
 (.ret [2])))))⟩
theorem comp48 : compile Tryz.prog Tryz.f48 = some code48 := by kernel_rfl
theorem okf48 : okFn Tryz.prog 48 = true := by kernel_rfl
-- 49: corebank/corebankref22.named
def body49_1 : C :=
 (.seq (.seq (.q [(9, (.op (.bin .lss) [(.sl 5), (.op .len [(.sl 0)])]))])
 (.cond (.sl 9) .skip (.exit 0 [])))
 (.seq (.blk 1 (.seq (.q [(18, (.op (.bin .eql) [(.op (.ld 1 false) [(.op (.fa 5 1) [(.op (.ix 6) [(.sl 0), (.sl 5)])])]), (.sl 1)]))])
 (.cond (.sl 18) (.seq (.q [(4, (.k (.b true)))])
 (.ret [4])) .skip)))
 (.q [(5, (.op (.bin .add) [(.sl 5), (.k (.i .i64 1))]))])))
def code49 : FCode := ⟨2, [.tmp 4],
 (.seq (.q [(4, (.k (.b false)))])
 (.seq (.seq (.q [(5, (.k (.i .i64 0)))])
 (.blk 0 (.loop [0, 1, 5] body49_1)))
 (.seq (.q [(4, (.k (.b false)))])
 (.ret [4]))))⟩
theorem comp49 : compile Tryz.prog Tryz.f49 = some code49 := by kernel_rfl
theorem okf49 : okFn Tryz.prog 49 = true := by kernel_rfl
-- 50: corebank/corebankref23.good
def code50 : FCode := ⟨1, [.tmp 2],
 (.seq (.s [.box 1 (.t 0), .as 2 (.c (.b false))] [])
 (.seq (.seq (.q [(20, (.ite (.ite (.ite (.op (.bin .lss) [(.op (.ld 1 false) [(.op (.fa 0 1) [(.sl 1)])]), (.k (.i .i64 1))]) (.k (.b true)) (.op (.bin .lss) [(.op (.ld 1 false) [(.op (.fa 1 1) [(.sl 1)])]), (.k (.i .i64 1000))])) (.k (.b true)) (.op (.bin .lss) [(.op (.ld 1 false) [(.op (.fa 2 1) [(.sl 1)])]), (.k (.i .i64 1))])) (.k (.b true)) (.op (.bin .gtr) [(.op (.ld 1 false) [(.op (.fa 2 1) [(.sl 1)])]), (.k (.i .i64 4))])))])
 (.cond (.sl 20) (.seq (.q [(2, (.k (.b false)))])
 (.ret [2])) .skip))
 (.seq (.seq (.q [(43, (.ite (.ite (.op (.bin .eql) [(.op (.ld 1 false) [(.op (.fa 2 1) [(.sl 1)])]), (.k (.i .i64 4))]) (.ite (.op (.bin .lss) [(.op (.ld 1 false) [(.op (.fa 3 1) [(.sl 1)])]), (.k (.i .i64 1))]) (.k (.b true)) (.op (.bin .gtr) [(.op (.ld 1 false) [(.op (.fa 3 1) [(.sl 1)])]), (.k (.i .i64 1000000000000))])) (.k (.b false))) (.k (.b true)) (.ite (.op (.bin .neq) [(.op (.ld 1 false) [(.op (.fa 2 1) [(.sl 1)])]), (.k (.i .i64 4))]) (.op (.bin .neq) [(.op (.ld 1 false) [(.op (.fa 3 1) [(.sl 1)])]), (.k (.i .i64 0))]) (.k (.b false)))))])
 (.cond (.sl 43) (.seq (.q [(2, (.k (.b false)))])
 (.ret [2])) .skip))
 (.seq (.q [(2, (.ite (.ite (.op (.call false 37) [(.op (.ld 1 false) [(.op (.fa 4 1) [(.sl 1)])])]) (.op (.call false 37) [(.op (.ld 1 false) [(.op (.fa 5 1) [(.sl 1)])])]) (.k (.b false))) (.op (.bin .leq) [(.op (.ld 1 false) [(.op (.fa 4 1) [(.sl 1)])]), (.op (.ld 1 false) [(.op (.fa 5 1) [(.sl 1)])])]) (.k (.b false))))])
 (.ret [2])))))⟩
theorem comp50 : compile Tryz.prog Tryz.f50 = some code50 := by kernel_rfl
theorem okf50 : okFn Tryz.prog 50 = true := by kernel_rfl
-- 51: corebank/report.name
def body51_1 : C :=
 (.seq (.q [(9, (.op (.bin .lss) [(.sl 8), (.sl 7)]))])
 (.seq (.cond (.sl 9) .skip (.exit 0 [0]))
 (.seq (.blk 1 (.seq (.q [(3, (.sl 8))])
 (.seq (.q [(4, (.op .idx [(.sl 0), (.sl 3)]))])
 (.seq (.q [(5, (.ite (.op (.bin .geq) [(.sl 4), (.k (.i .u8 97))]) (.op (.bin .leq) [(.sl 4), (.k (.i .u8 122))]) (.k (.b false))))])
 (.seq (.q [(37, (.ite (.op (.un .not) [(.sl 5)]) (.ite (.op (.bin .eql) [(.sl 3), (.k (.i .i64 0))]) (.k (.b true)) (.ite (.op (.bin .neq) [(.sl 4), (.k (.i .u8 95))]) (.ite (.op (.bin .lss) [(.sl 4), (.k (.i .u8 48))]) (.k (.b true)) (.op (.bin .gtr) [(.sl 4), (.k (.i .u8 57))])) (.k (.b false)))) (.k (.b false))))])
 (.cond (.sl 37) (.seq (.q [(2, (.k (.b false)))])
 (.ret [2])) .skip))))))
 (.q [(8, (.op (.bin .add) [(.sl 8), (.k (.i .i64 1))]))]))))
def code51 : FCode := ⟨1, [.tmp 2],
 (.seq (.q [(2, (.k (.b false)))])
 (.seq (.seq (.q [(7, (.op .slen [(.sl 0)])), (8, (.k (.i .i64 0)))])
 (.blk 0 (.loop [0, 7, 8] body51_1)))
 (.seq (.q [(2, (.ite (.op (.bin .geq) [(.op .slen [(.sl 0)]), (.k (.i .i64 1))]) (.op (.bin .leq) [(.op .slen [(.sl 0)]), (.k (.i .i64 16))]) (.k (.b false))))])
 (.ret [2]))))⟩
theorem comp51 : compile Tryz.prog Tryz.f51 = some code51 := by kernel_rfl
theorem okf51 : okFn Tryz.prog 51 = true := by kernel_rfl
-- 52: corebank/report.roots
def body52_1 : C :=
 (.seq (.q [(32, (.op (.bin .lss) [(.sl 31), (.sl 30)]))])
 (.seq (.cond (.sl 32) .skip (.exit 2 [1, 2, 11, 12, 13]))
 (.seq (.blk 3 (.seq (.q [(10, (.op (.ld 1 false) [(.op (.ix 1) [(.sl 29), (.sl 31)])]))])
 (.seq (.q [(46, (.ite (.op (.call false 71) [(.op (.ld 1 false) [(.op (.fa 2 1) [(.sl 2)])]), (.sl 6), (.sl 10)]) (.k (.b true)) (.op (.call false 71) [(.op (.ld 1 false) [(.op (.fa 2 1) [(.sl 2)])]), (.sl 10), (.sl 6)])))])
 (.cond (.sl 46) (.seq (.q [(4, (.k (.i .i64 12)))])
 (.ret [4])) .skip))))
 (.q [(31, (.op (.bin .add) [(.sl 31), (.k (.i .i64 1))]))]))))
def body52_2 : C :=
 (.seq (.q [(14, (.op (.bin .lss) [(.sl 13), (.sl 12)]))])
 (.seq (.cond (.sl 14) .skip (.exit 0 []))
 (.seq (.blk 1 (.seq (.q [(5, (.sl 13)), (6, (.op (.ld 1 false) [(.op (.ix 1) [(.sl 11), (.sl 13)])]))])
 (.seq (.seq (.s [.fa 19 2 1 (.t 2), .q 20 (.ld 1 false) [(.t 19)], .mv 21 (.t 6), .call (some 22) 55 [(.t 20), (.t 21)], .mv 18 (.t 22), .ext 23 0 18, .ext 24 1 18, .alo 7 [(.i .i64 0), (.i .i64 0), (.i .i64 0), (.s [])], .sto 4 (.t 7) (.t 23), .as 8 (.t 24)] [19, 20, 21, 22, 18, 23, 24, 7])
 (.seq (.q [(26, (.op (.un .not) [(.sl 8)]))])
 (.cond (.sl 26) (.seq (.q [(4, (.k (.i .i64 11)))])
 (.ret [4])) .skip)))
 (.seq (.s [.mv 27 (.t 1), .mv 28 (.t 5), .slc 29 1 false true [(.t 27), (.t 28)], .q 30 .len [(.t 29)], .mv 31 (.c (.i .i64 0))] [27, 28])
 (.blk 2 (.loop [1, 2, 6, 11, 12, 13, 29, 30, 31] body52_1))))))
 (.q [(13, (.op (.bin .add) [(.sl 13), (.k (.i .i64 1))]))]))))
def code52 : FCode := ⟨2, [.tmp 4],
 (.seq (.s [.box 2 (.t 0), .as 4 (.c (.i .i64 0))] [])
 (.seq (.seq (.s [.mv 11 (.t 1), .q 12 .len [(.t 11)], .mv 13 (.c (.i .i64 0))] [])
 (.blk 0 (.loop [1, 2, 11, 12, 13] body52_2)))
 (.seq (.q [(4, (.k (.i .i64 0)))])
 (.ret [4]))))⟩
theorem comp52 : compile Tryz.prog Tryz.f52 = some code52 := by kernel_rfl
theorem okf52 : okFn Tryz.prog 52 = true := by kernel_rfl
-- 53: corebank/report.belongs
def code53 : FCode := ⟨3, [.tmp 6],
 (.seq (.s [.box 3 (.t 0), .box 4 (.t 1), .as 6 (.c (.b false))] [])
 (.seq (.s [.q 8 (.ld 22 true) [(.t 3)], .mv 9 (.t 2), .call (some 10) 26 [(.t 8), (.t 9)], .alo 7 [(.i .i64 0)], .sto 1 (.t 7) (.t 10)] [8, 9, 10])
 (.seq (.g [.s (.q 11 (.ld 1 false) [(.t 7)]), .s (.q 12 (.bin .neq) [(.t 11), (.c (.i .i64 0))]), .s (.mv 13 (.t 12)), .gd 13 true (some 14) (.fa 14 2 1 (.t 4)), .gd 13 true (some 15) (.q 15 (.ld 1 false) [(.t 14)]), .gd 13 true (some 16) (.mkf 16 (.func 73) 0 [(.t 3), (.t 7)]), .gd 13 true (some 17) (.call (some 17) 72 [(.t 15), (.t 16)]), .pick 18 13 (.t 17) (.c (.b false)), .s (.as 6 (.t 18))] [11, 12, 13, 14, 15, 16, 17, 18])
 (.ret [6]))))⟩
theorem comp53 : compile Tryz.prog Tryz.f53 = some code53 := by kernel_rfl
theorem okf53 : okFn Tryz.prog 53 = true := by kernel_rfl
-- 54: corebank/money.Find
def body54_1 : C :=
 (.seq (.q [(11, (.op (.bin .lss) [(.sl 10), (.sl 9)]))])
 (.seq (.cond (.sl 11) .skip (.exit 0 [4]))
 (.seq (.blk 1 (.seq (.s [.ix 12 2 (.t 8) (.t 10), .q 13 (.ld 2 true) [(.t 12)], .alo 7 [(.s []), (.i .i64 0)], .sto 2 (.t 7) (.t 13)] [12, 13])
 (.seq (.q [(17, (.op (.bin .eql) [(.op (.ld 1 false) [(.op (.fa 0 1) [(.sl 7)])]), (.sl 1)]))])
 (.cond (.sl 17) (.seq (.s [.q 18 (.ld 2 true) [(.t 7)], .sto 2 (.t 4) (.t 18), .as 5 (.c (.b true))] [18])
 (.ret [4, 5])) .skip))))
 (.q [(10, (.op (.bin .add) [(.sl 10), (.k (.i .i64 1))]))]))))
def code54 : FCode := ⟨2, [.cell 4 2 true, .tmp 5],
 (.seq (.s [.alo 4 [(.s []), (.i .i64 0)], .as 5 (.c (.b false))] [])
 (.seq (.seq (.s [.mv 8 (.t 0), .q 9 .len [(.t 8)], .mv 10 (.c (.i .i64 0))] [])
 (.blk 0 (.loop [1, 4, 8, 9, 10] body54_1)))
 (.seq (.s [.bld 20 [(.s []), (.i .i64 0)] [] [], .sto 2 (.t 4) (.t 20), .as 5 (.c (.b false))] [20])
 (.ret [4, 5]))))⟩
theorem comp54 : compile Tryz.prog Tryz.f54 = some code54 := by kernel_rfl
theorem okf54 : okFn Tryz.prog 54 = true := by kernel_rfl
-- 55: corebank/chart.Find
def body55_1 : C :=
 (.seq (.q [(11, (.op (.bin .lss) [(.sl 10), (.sl 9)]))])
 (.seq (.cond (.sl 11) .skip (.exit 0 [4]))
 (.seq (.blk 1 (.seq (.s [.ix 12 4 (.t 8) (.t 10), .q 13 (.ld 4 true) [(.t 12)], .alo 7 [(.i .i64 0), (.i .i64 0), (.i .i64 0), (.s [])], .sto 4 (.t 7) (.t 13)] [12, 13])
 (.seq (.q [(17, (.op (.bin .eql) [(.op (.ld 1 false) [(.op (.fa 0 1) [(.sl 7)])]), (.sl 1)]))])
 (.cond (.sl 17) (.seq (.s [.q 18 (.ld 4 true) [(.t 7)], .sto 4 (.t 4) (.t 18), .as 5 (.c (.b true))] [18])
 (.ret [4, 5])) .skip))))
 (.q [(10, (.op (.bin .add) [(.sl 10), (.k (.i .i64 1))]))]))))
def code55 : FCode := ⟨2, [.cell 4 4 true, .tmp 5],
 (.seq (.s [.alo 4 [(.i .i64 0), (.i .i64 0), (.i .i64 0), (.s [])], .as 5 (.c (.b false))] [])
 (.seq (.seq (.s [.mv 8 (.t 0), .q 9 .len [(.t 8)], .mv 10 (.c (.i .i64 0))] [])
 (.blk 0 (.loop [1, 4, 8, 9, 10] body55_1)))
 (.seq (.s [.bld 20 [(.i .i64 0), (.i .i64 0), (.i .i64 0), (.s [])] [] [], .sto 4 (.t 4) (.t 20), .as 5 (.c (.b false))] [20])
 (.ret [4, 5]))))⟩
theorem comp55 : compile Tryz.prog Tryz.f55 = some code55 := by kernel_rfl
theorem okf55 : okFn Tryz.prog 55 = true := by kernel_rfl
-- 56: corebank/account.Find
def code56 : FCode := ⟨2, [.cell 4 7 true, .tmp 5],
 (.seq (.s [.box 2 (.t 0), .alo 4 [(.i .i64 0), (.i .i64 0), (.i .i64 0), (.i .i64 0), (.s []), (.s []), (.s [])], .as 5 (.c (.b false))] [])
 (.seq (.q [(6, (.op (.call false 74) [(.op (.ld 22 true) [(.sl 2)]), (.sl 1)]))])
 (.seq (.seq (.q [(11, (.op (.bin .lss) [(.sl 6), (.k (.i .i64 0))]))])
 (.cond (.sl 11) (.seq (.s [.bld 12 [(.i .i64 0), (.i .i64 0), (.i .i64 0), (.i .i64 0), (.s []), (.s []), (.s [])] [] [], .sto 7 (.t 4) (.t 12), .as 5 (.c (.b false))] [12])
 (.ret [4, 5])) .skip))
 (.seq (.s [.fa 13 18 1 (.t 2), .q 14 (.ld 1 false) [(.t 13)], .mv 15 (.t 6), .ix 16 7 (.t 14) (.t 15), .q 17 (.ld 7 true) [(.t 16)], .sto 7 (.t 4) (.t 17), .as 5 (.c (.b true))] [13, 14, 15, 16, 17])
 (.ret [4, 5])))))⟩
theorem comp56 : compile Tryz.prog Tryz.f56 = some code56 := by kernel_rfl
theorem okf56 : okFn Tryz.prog 56 = true := by kernel_rfl
-- 57: corebank/corebankref10.Great
def code57 : FCode := ⟨2, [.tmp 4],
 (.seq (.s [.box 2 (.t 0), .as 4 (.c (.b false))] [])
 (.seq (.q [(4, (.op (.bin .gtr) [(.op (.call false 75) [(.op (.ld 4 true) [(.sl 2)]), (.sl 1)]), (.sl 1)]))])
 (.ret [4])))⟩
theorem comp57 : compile Tryz.prog Tryz.f57 = some code57 := by kernel_rfl
theorem okf57 : okFn Tryz.prog 57 = true := by kernel_rfl
-- 58: corebank/corebankref18.Parent
def body58_1 : C :=
 (.seq (.seq (.q [(9, (.op (.bin .lss) [(.sl 5), (.op .len [(.sl 0)])]))])
 (.cond (.sl 9) .skip (.exit 0 [])))
 (.seq (.blk 1 (.seq (.q [(18, (.op (.bin .eql) [(.op (.ld 1 false) [(.op (.fa 1 1) [(.op (.ix 4) [(.sl 0), (.sl 5)])])]), (.sl 1)]))])
 (.cond (.sl 18) (.seq (.q [(4, (.k (.b true)))])
 (.ret [4])) .skip)))
 (.q [(5, (.op (.bin .add) [(.sl 5), (.k (.i .i64 1))]))])))
def code58 : FCode := ⟨2, [.tmp 4],
 (.seq (.q [(4, (.k (.b false)))])
 (.seq (.seq (.q [(5, (.k (.i .i64 0)))])
 (.blk 0 (.loop [0, 1, 5] body58_1)))
 (.seq (.q [(4, (.k (.b false)))])
 (.ret [4]))))⟩
theorem comp58 : compile Tryz.prog Tryz.f58 = some code58 := by kernel_rfl
theorem okf58 : okFn Tryz.prog 58 = true := by kernel_rfl
-- 59: corebank/corebankref14.Check
def body59_1 : C :=
 (.seq (.seq (.q [(11, (.op (.bin .lss) [(.sl 3), (.op .len [(.sl 0)])]))])
 (.cond (.sl 11) .skip (.exit 0 [0])))
 (.seq (.blk 1 (.seq (.q [(43, (.ite (.ite (.ite (.op (.bin .lss) [(.op (.ld 1 false) [(.op (.fa 0 1) [(.op (.ix 2) [(.sl 0), (.sl 3)])])]), (.k (.i .i64 0))]) (.k (.b true)) (.op (.bin .gtr) [(.op (.ld 1 false) [(.op (.fa 0 1) [(.op (.ix 2) [(.sl 0), (.sl 3)])])]), (.k (.i .i64 1000000000000))])) (.k (.b true)) (.op (.bin .lss) [(.op (.ld 1 false) [(.op (.fa 1 1) [(.op (.ix 2) [(.sl 0), (.sl 3)])])]), (.k (.i .i64 0))])) (.k (.b true)) (.op (.bin .gtr) [(.op (.ld 1 false) [(.op (.fa 1 1) [(.op (.ix 2) [(.sl 0), (.sl 3)])])]), (.k (.i .i64 1000000))])))])
 (.cond (.sl 43) (.seq (.q [(2, (.k (.i .i64 1)))])
 (.ret [2])) .skip)))
 (.q [(3, (.op (.bin .add) [(.sl 3), (.k (.i .i64 1))]))])))
def body59_2 : C :=
 (.seq (.seq (.q [(47, (.op (.bin .lss) [(.sl 4), (.op .len [(.sl 0)])]))])
 (.cond (.sl 47) .skip (.exit 2 [0])))
 (.seq (.blk 3 (.seq (.q [(61, (.op (.bin .leq) [(.op (.ld 1 false) [(.op (.fa 0 1) [(.op (.ix 2) [(.sl 0), (.sl 4)])])]), (.op (.ld 1 false) [(.op (.fa 0 1) [(.op (.ix 2) [(.sl 0), (.op (.bin .sub) [(.sl 4), (.k (.i .i64 1))])])])])]))])
 (.cond (.sl 61) (.seq (.q [(2, (.k (.i .i64 10)))])
 (.ret [2])) .skip)))
 (.q [(4, (.op (.bin .add) [(.sl 4), (.k (.i .i64 1))]))])))
def code59 : FCode := ⟨1, [.tmp 2],
 (.seq (.q [(2, (.k (.i .i64 0)))])
 (.seq (.seq (.q [(7, (.op (.bin .gtr) [(.op .len [(.sl 0)]), (.k (.i .i64 6))]))])
 (.cond (.sl 7) (.seq (.q [(2, (.k (.i .i64 5)))])
 (.ret [2])) .skip))
 (.seq (.seq (.q [(3, (.k (.i .i64 0)))])
 (.blk 0 (.loop [0, 3] body59_1)))
 (.seq (.seq (.q [(4, (.k (.i .i64 1)))])
 (.blk 2 (.loop [0, 4] body59_2)))
 (.seq (.seq (.q [(71, (.ite (.op (.bin .gtr) [(.op .len [(.sl 0)]), (.k (.i .i64 0))]) (.op (.bin .neq) [(.op (.ld 1 false) [(.op (.fa 0 1) [(.op (.ix 2) [(.sl 0), (.k (.i .i64 0))])])]), (.k (.i .i64 0))]) (.k (.b false))))])
 (.cond (.sl 71) (.seq (.q [(2, (.k (.i .i64 1)))])
 (.ret [2])) .skip))
 (.seq (.q [(2, (.k (.i .i64 0)))])
 (.ret [2])))))))⟩
theorem comp59 : compile Tryz.prog Tryz.f59 = some code59 := by kernel_rfl
theorem okf59 : okFn Tryz.prog 59 = true := by kernel_rfl
-- 60: corebank/corebankref11.Check
def code60 : FCode := ⟨3, [.tmp 6],
 (.seq (.s [.box 3 (.t 0), .as 6 (.c (.i .i64 0))] [])
 (.seq (.q [(7, (.op (.ext 0) [(.op (.call false 76) [(.op (.ld 4 true) [(.sl 3)]), (.sl 1)])])), (8, (.op (.ext 1) [(.op (.call false 76) [(.op (.ld 4 true) [(.sl 3)]), (.sl 1)])]))])
 (.seq (.seq (.q [(16, (.op (.bin .neq) [(.sl 8), (.k (.i .i64 0))]))])
 (.cond (.sl 16) (.seq (.q [(6, (.sl 8))])
 (.ret [6])) .skip))
 (.seq (.seq (.q [(20, (.op (.bin .neq) [(.sl 7), (.sl 2)]))])
 (.cond (.sl 20) (.seq (.q [(6, (.k (.i .i64 3)))])
 (.ret [6])) .skip))
 (.seq (.q [(6, (.k (.i .i64 0)))])
 (.ret [6]))))))⟩
theorem comp60 : compile Tryz.prog Tryz.f60 = some code60 := by kernel_rfl
theorem okf60 : okFn Tryz.prog 60 = true := by kernel_rfl
-- 61: corebank/corebankref15.Vars
def code61 : FCode := ⟨0, [.tmp 0],
 (.seq (.s [.as 0 (.c (.ow 151 []))] [])
 (.seq (.s [.bld 1 [(.s []), (.i .i64 0)] [(0, 1), (1, 1)] [(.c (.s [98, 97, 108, 97, 110, 99, 101])), (.c (.i .i64 2))], .bld 2 [(.s []), (.i .i64 0)] [(0, 1), (1, 1)] [(.c (.s [108, 111, 119, 101, 115, 116])), (.c (.i .i64 2))], .bld 3 [(.s []), (.i .i64 0)] [(0, 1), (1, 1)] [(.c (.s [118, 111, 108, 117, 109, 101])), (.c (.i .i64 2))], .bld 4 [(.s []), (.i .i64 0)] [(0, 1), (1, 1)] [(.c (.s [97, 109, 111, 117, 110, 116])), (.c (.i .i64 2))], .bld 5 [(.s []), (.i .i64 0)] [(0, 1), (1, 1)] [(.c (.s [99, 111, 117, 110, 116])), (.c (.i .i64 1))], .bld 6 [(.s []), (.i .i64 0)] [(0, 1), (1, 1)] [(.c (.s [97, 103, 101])), (.c (.i .i64 1))], .bld 7 [(.s []), (.i .i64 0)] [(0, 1), (1, 1)] [(.c (.s [100, 97, 121])), (.c (.i .i64 4))], .bsl 8 151 2 [(.t 1), (.t 2), (.t 3), (.t 4), (.t 5), (.t 6), (.t 7)], .as 0 (.t 8)] [1, 2, 3, 4, 5, 6, 7, 8])
 (.ret [0])))⟩
theorem comp61 : compile Tryz.prog Tryz.f61 = some code61 := by kernel_rfl
theorem okf61 : okFn Tryz.prog 61 = true := by kernel_rfl
-- 62: corebank/corebankref24.Number
def body62_1 : C :=
 (.seq (.seq (.q [(14, (.op (.bin .lss) [(.sl 4), (.k (.i .i64 8))]))])
 (.cond (.sl 14) .skip (.exit 0 [3])))
 (.seq (.blk 1 (.seq (.q [(3, (.op (.bin .add) [(.op (.slcs true true) [(.k (.s [48, 49, 50, 51, 52, 53, 54, 55, 56, 57])), (.op (.bin .rem) [(.sl 0), (.k (.i .i64 10))]), (.op (.bin .add) [(.op (.bin .rem) [(.sl 0), (.k (.i .i64 10))]), (.k (.i .i64 1))])]), (.sl 3)]))])
 (.q [(0, (.op (.bin .quo) [(.sl 0), (.k (.i .i64 10))]))])))
 (.q [(4, (.op (.bin .add) [(.sl 4), (.k (.i .i64 1))]))])))
def code62 : FCode := ⟨1, [.tmp 2],
 (.seq (.q [(2, (.k (.s [])))])
 (.seq (.seq (.q [(12, (.ite (.op (.bin .lss) [(.sl 0), (.k (.i .i64 1000))]) (.k (.b true)) (.op (.bin .gtr) [(.sl 0), (.k (.i .i64 99999999))])))])
 (.cond (.sl 12) (.seq (.q [(2, (.k (.s [])))])
 (.ret [2])) .skip))
 (.seq (.q [(3, (.k (.s [])))])
 (.seq (.seq (.q [(4, (.k (.i .i64 0)))])
 (.blk 0 (.loop [0, 3, 4] body62_1)))
 (.seq (.s [.mv 28 (.t 3), .q 29 (.bin .add) [(.c (.s [67, 66])), (.t 28)], .call (some 30) 77 [(.t 29)], .mv 27 (.t 30), .ext 31 0 27, .ext 32 1 27, .as 5 (.t 31), .as 6 (.t 32)] [28, 29, 30, 27, 31, 32, 6])
 (.seq (.q [(2, (.sl 5))])
 (.ret [2])))))))⟩
theorem comp62 : compile Tryz.prog Tryz.f62 = some code62 := by kernel_rfl
theorem okf62 : okFn Tryz.prog 62 = true := by kernel_rfl
-- 63: corebank/corebankref17.At
def body63_1 : C :=
 (.seq (.seq (.q [(13, (.op (.bin .lss) [(.sl 9), (.op .len [(.sl 0)])]))])
 (.cond (.sl 13) .skip (.exit 0 [0, 6, 8])))
 (.seq (.blk 1 (.seq (.q [(48, (.ite (.ite (.op (.bin .eql) [(.op (.ld 1 false) [(.op (.fa 0 1) [(.op (.ix 19) [(.sl 0), (.sl 9)])])]), (.sl 1)]) (.op (.bin .leq) [(.op (.ld 1 false) [(.op (.fa 3 1) [(.op (.ix 19) [(.sl 0), (.sl 9)])])]), (.sl 2)]) (.k (.b false))) (.ite (.op (.bin .lss) [(.sl 8), (.k (.i .i64 0))]) (.k (.b true)) (.op (.bin .gtr) [(.op (.ld 1 false) [(.op (.fa 3 1) [(.op (.ix 19) [(.sl 0), (.sl 9)])])]), (.op (.ld 1 false) [(.op (.fa 3 1) [(.op (.ix 19) [(.sl 0), (.sl 8)])])])])) (.k (.b false))))])
 (.cond (.sl 48) (.q [(8, (.sl 9))]) .skip)))
 (.q [(9, (.op (.bin .add) [(.sl 9), (.k (.i .i64 1))]))])))
def code63 : FCode := ⟨3, [.cell 6 19 true, .tmp 7],
 (.seq (.s [.alo 6 [(.s []), (.s []), (.s []), (.i .i64 0), (.i .i64 0), (.i .i64 0), (.i .i64 0), (.l []), (.b false), (.i .i64 0), (.i .i64 0), (.b false), (.l []), (.b false), (.i .i64 0), (.i .i64 0), (.b false), (.l []), (.l [])], .as 7 (.c (.b false))] [])
 (.seq (.q [(8, (.k (.i .i64 (-1))))])
 (.seq (.seq (.q [(9, (.k (.i .i64 0)))])
 (.blk 0 (.loop [0, 1, 2, 6, 8, 9] body63_1)))
 (.seq (.seq (.q [(51, (.op (.bin .lss) [(.sl 8), (.k (.i .i64 0))]))])
 (.cond (.sl 51) (.seq (.s [.bld 52 [(.s []), (.s []), (.s []), (.i .i64 0), (.i .i64 0), (.i .i64 0), (.i .i64 0), (.l []), (.b false), (.i .i64 0), (.i .i64 0), (.b false), (.l []), (.b false), (.i .i64 0), (.i .i64 0), (.b false), (.l []), (.l [])] [] [], .sto 19 (.t 6) (.t 52), .as 7 (.c (.b false))] [52])
 (.ret [6, 7])) .skip))
 (.seq (.s [.mv 53 (.t 0), .mv 54 (.t 8), .ix 55 19 (.t 53) (.t 54), .q 56 (.ld 19 true) [(.t 55)], .sto 19 (.t 6) (.t 56), .as 7 (.c (.b true))] [53, 54, 55, 56])
 (.ret [6, 7]))))))⟩
theorem comp63 : compile Tryz.prog Tryz.f63 = some code63 := by kernel_rfl
theorem okf63 : okFn Tryz.prog 63 = true := by kernel_rfl
-- 64: corebank/corebankref07.Key
def code64 : FCode := ⟨1, [.tmp 2],
 (.seq (.q [(2, (.k (.b false)))])
 (.seq (.q [(2, (.ite (.op (.bin .geq) [(.op .slen [(.sl 0)]), (.k (.i .i64 1))]) (.op (.call false 65) [(.sl 0), (.k (.i .i64 48)), (.k (.i .u8 33))]) (.k (.b false))))])
 (.ret [2])))⟩
theorem comp64 : compile Tryz.prog Tryz.f64 = some code64 := by kernel_rfl
theorem okf64 : okFn Tryz.prog 64 = true := by kernel_rfl
-- 65: corebank/corebankref07.Printed
def body65_1 : C :=
 (.seq (.seq (.q [(15, (.op (.bin .lss) [(.sl 7), (.op .slen [(.sl 0)])]))])
 (.cond (.sl 15) .skip (.exit 0 [])))
 (.seq (.blk 1 (.seq (.q [(28, (.ite (.op (.bin .lss) [(.op .idx [(.sl 0), (.sl 7)]), (.sl 2)]) (.k (.b true)) (.op (.bin .gtr) [(.op .idx [(.sl 0), (.sl 7)]), (.k (.i .u8 126))])))])
 (.cond (.sl 28) (.seq (.q [(6, (.k (.b false)))])
 (.ret [6])) .skip)))
 (.q [(7, (.op (.bin .add) [(.sl 7), (.k (.i .i64 1))]))])))
def code65 : FCode := ⟨3, [.tmp 6],
 (.seq (.q [(6, (.k (.b false)))])
 (.seq (.seq (.q [(11, (.op (.bin .gtr) [(.op .slen [(.sl 0)]), (.sl 1)]))])
 (.cond (.sl 11) (.seq (.q [(6, (.k (.b false)))])
 (.ret [6])) .skip))
 (.seq (.seq (.q [(7, (.k (.i .i64 0)))])
 (.blk 0 (.loop [0, 2, 7] body65_1)))
 (.seq (.q [(6, (.k (.b true)))])
 (.ret [6])))))⟩
theorem comp65 : compile Tryz.prog Tryz.f65 = some code65 := by kernel_rfl
theorem okf65 : okFn Tryz.prog 65 = true := by kernel_rfl
-- 66: corebank/corebankref19.leg
def code66 : FCode := ⟨1, [.tmp 2],
 (.seq (.s [.box 1 (.t 0), .as 2 (.c (.i .i64 0))] [])
 (.seq (.seq (.q [(20, (.ite (.ite (.ite (.op (.bin .lss) [(.op (.ld 1 false) [(.op (.fa 0 1) [(.sl 1)])]), (.k (.i .i64 1))]) (.k (.b true)) (.op (.bin .eql) [(.op (.ld 1 false) [(.op (.fa 1 1) [(.sl 1)])]), (.k (.i .i64 0))])) (.k (.b true)) (.op (.bin .lss) [(.op (.ld 1 false) [(.op (.fa 1 1) [(.sl 1)])]), (.k (.i .i64 (-1000000000000)))])) (.k (.b true)) (.op (.bin .gtr) [(.op (.ld 1 false) [(.op (.fa 1 1) [(.sl 1)])]), (.k (.i .i64 1000000000000))])))])
 (.cond (.sl 20) (.seq (.q [(2, (.k (.i .i64 1)))])
 (.ret [2])) .skip))
 (.seq (.seq (.q [(24, (.op (.un .not) [(.op (.call false 78) [(.op (.ld 1 false) [(.op (.fa 2 1) [(.sl 1)])])])]))])
 (.cond (.sl 24) (.seq (.q [(2, (.k (.i .i64 14)))])
 (.ret [2])) .skip))
 (.seq (.q [(2, (.k (.i .i64 0)))])
 (.ret [2])))))⟩
theorem comp66 : compile Tryz.prog Tryz.f66 = some code66 := by kernel_rfl
theorem okf66 : okFn Tryz.prog 66 = true := by kernel_rfl
-- 67: corebank/corebankref19.Sums
def body67_1 : C :=
 (.seq (.seq (.q [(30, (.ite (.op (.bin .lss) [(.sl 6), (.op .len [(.sl 3)])]) (.op (.bin .lss) [(.op (.ld 1 false) [(.op (.fa 0 1) [(.op (.ix 2) [(.sl 3), (.sl 6)])])]), (.op (.ld 1 false) [(.op (.fa 2 1) [(.op (.ix 3) [(.sl 0), (.sl 4)])])])]) (.k (.b false))))])
 (.cond (.sl 30) .skip (.exit 2 [0, 3, 4, 5, 6])))
 (.blk 3 (.q [(6, (.op (.bin .add) [(.sl 6), (.k (.i .i64 1))]))])))
def body67_2 : C :=
 (.seq (.seq (.q [(11, (.op (.bin .lss) [(.sl 4), (.op .len [(.sl 0)])]))])
 (.cond (.sl 11) .skip (.exit 0 [3])))
 (.seq (.blk 1 (.seq (.s [.as 5 (.c (.ow 139 []))] [])
 (.seq (.q [(6, (.k (.i .i64 0)))])
 (.seq (.blk 2 (.loop [0, 3, 4, 5, 6] body67_1))
 (.seq (.s [.mv 33 (.t 5), .mv 34 (.t 3), .mv 35 (.t 6), .slc 36 2 false true [(.t 34), (.t 35)], .app 37 139 2 24 (.t 33) (.t 36), .as 5 (.t 37)] [33, 34, 35, 36, 37])
 (.seq (.q [(7, (.op (.ld 1 false) [(.op (.fa 1 1) [(.op (.ix 3) [(.sl 0), (.sl 4)])])]))])
 (.seq (.seq (.q [(59, (.ite (.op (.bin .lss) [(.sl 6), (.op .len [(.sl 3)])]) (.op (.bin .eql) [(.op (.ld 1 false) [(.op (.fa 0 1) [(.op (.ix 2) [(.sl 3), (.sl 6)])])]), (.op (.ld 1 false) [(.op (.fa 2 1) [(.op (.ix 3) [(.sl 0), (.sl 4)])])])]) (.k (.b false))))])
 (.cond (.sl 59) (.seq (.q [(7, (.op (.bin .add) [(.sl 7), (.op (.ld 1 false) [(.op (.fa 1 1) [(.op (.ix 2) [(.sl 3), (.sl 6)])])])]))])
 (.q [(6, (.op (.bin .add) [(.sl 6), (.k (.i .i64 1))]))])) .skip))
 (.seq (.s [.mv 69 (.t 5), .mv 70 (.t 0), .mv 71 (.t 4), .ix 72 3 (.t 70) (.t 71), .fa 73 2 1 (.t 72), .q 74 (.ld 1 false) [(.t 73)], .mv 75 (.t 7), .bld 76 [(.s []), (.i .i64 0)] [(0, 1), (1, 1)] [(.t 74), (.t 75)], .bsl 77 139 2 [(.t 76)], .app 78 139 2 24 (.t 69) (.t 77), .as 5 (.t 78)] [69, 70, 71, 72, 73, 74, 75, 76, 77, 78])
 (.seq (.s [.mv 79 (.t 5), .mv 80 (.t 3), .mv 81 (.t 6), .slc 82 2 true false [(.t 80), (.t 81)], .app 83 139 2 24 (.t 79) (.t 82), .as 5 (.t 83)] [79, 80, 81, 82, 83])
 (.s [.mv 84 (.t 5), .as 3 (.t 84)] [84]))))))))))
 (.q [(4, (.op (.bin .add) [(.sl 4), (.k (.i .i64 1))]))])))
def code67 : FCode := ⟨1, [.tmp 2],
 (.seq (.s [.as 2 (.c (.ow 139 []))] [])
 (.seq (.s [.as 3 (.c (.ow 139 []))] [])
 (.seq (.seq (.q [(4, (.k (.i .i64 0)))])
 (.blk 0 (.loop [0, 3, 4] body67_2)))
 (.seq (.s [.mv 85 (.t 3), .as 2 (.t 85)] [85])
 (.ret [2])))))⟩
theorem comp67 : compile Tryz.prog Tryz.f67 = some code67 := by kernel_rfl
theorem okf67 : okFn Tryz.prog 67 = true := by kernel_rfl
-- 68: corebank/corebankref18.Leaves
def body68_1 : C :=
 (.seq (.seq (.q [(49, (.ite (.op (.bin .gtr) [(.sl 7), (.k (.i .i64 0))]) (.op (.bin .gtr) [(.op (.ld 1 false) [(.op (.ix 1) [(.sl 5), (.op (.bin .sub) [(.sl 7), (.k (.i .i64 1))])])]), (.op (.ld 1 false) [(.op (.fa 0 1) [(.op (.ix 4) [(.sl 0), (.sl 6)])])])]) (.k (.b false))))])
 (.cond (.sl 49) .skip (.exit 2 [0, 1, 5, 6, 7])))
 (.blk 3 (.q [(7, (.op (.bin .sub) [(.sl 7), (.k (.i .i64 1))]))])))
def body68_2 : C :=
 (.seq (.seq (.q [(12, (.op (.bin .lss) [(.sl 6), (.op .len [(.sl 0)])]))])
 (.cond (.sl 12) .skip (.exit 0 [5])))
 (.seq (.blk 1 (.seq (.seq (.q [(32, (.ite (.op (.call false 58) [(.sl 0), (.op (.ld 1 false) [(.op (.fa 0 1) [(.op (.ix 4) [(.sl 0), (.sl 6)])])])]) (.k (.b true)) (.op (.un .not) [(.op (.call false 79) [(.sl 0), (.op (.ld 1 false) [(.op (.fa 0 1) [(.op (.ix 4) [(.sl 0), (.sl 6)])])]), (.sl 1)])])))])
 (.cond (.sl 32) (.exit 1 [0, 1, 5, 6]) .skip))
 (.seq (.q [(7, (.op .len [(.sl 5)]))])
 (.seq (.blk 2 (.loop [0, 1, 5, 6, 7] body68_1))
 (.seq (.seq (.q [(66, (.ite (.op (.bin .gtr) [(.sl 7), (.k (.i .i64 0))]) (.op (.bin .eql) [(.op (.ld 1 false) [(.op (.ix 1) [(.sl 5), (.op (.bin .sub) [(.sl 7), (.k (.i .i64 1))])])]), (.op (.ld 1 false) [(.op (.fa 0 1) [(.op (.ix 4) [(.sl 0), (.sl 6)])])])]) (.k (.b false))))])
 (.cond (.sl 66) (.exit 1 [0, 1, 5, 6]) .skip))
 (.seq (.s [.bsl 67 3 1 [], .mv 68 (.t 5), .mv 69 (.t 7), .slc 70 1 false true [(.t 68), (.t 69)], .app 71 3 1 8 (.t 67) (.t 70), .as 8 (.t 71)] [67, 68, 69, 70, 71])
 (.seq (.s [.mv 72 (.t 8), .mv 73 (.t 0), .mv 74 (.t 6), .ix 75 4 (.t 73) (.t 74), .fa 76 0 1 (.t 75), .q 77 (.ld 1 false) [(.t 76)], .bsl 78 3 1 [(.t 77)], .app 79 3 1 8 (.t 72) (.t 78), .as 8 (.t 79)] [72, 73, 74, 75, 76, 77, 78, 79])
 (.s [.mv 80 (.t 8), .mv 81 (.t 5), .mv 82 (.t 7), .slc 83 1 true false [(.t 81), (.t 82)], .app 84 3 1 8 (.t 80) (.t 83), .as 5 (.t 84)] [80, 81, 82, 83, 84]))))))))
 (.q [(6, (.op (.bin .add) [(.sl 6), (.k (.i .i64 1))]))])))
def code68 : FCode := ⟨2, [.tmp 4],
 (.seq (.s [.as 4 (.c (.ow 3 []))] [])
 (.seq (.s [.as 5 (.c (.ow 3 []))] [])
 (.seq (.seq (.q [(6, (.k (.i .i64 0)))])
 (.blk 0 (.loop [0, 1, 5, 6] body68_2)))
 (.seq (.s [.mv 85 (.t 5), .as 4 (.t 85)] [85])
 (.ret [4])))))⟩
theorem comp68 : compile Tryz.prog Tryz.f68 = some code68 := by kernel_rfl
theorem okf68 : okFn Tryz.prog 68 = true := by kernel_rfl
-- 69: corebank/corebankref24.Product
def code69 : FCode := ⟨3, [.cell 6 19 true, .tmp 7],
 (.seq (.s [.box 3 (.t 0), .alo 6 [(.s []), (.s []), (.s []), (.i .i64 0), (.i .i64 0), (.i .i64 0), (.i .i64 0), (.l []), (.b false), (.i .i64 0), (.i .i64 0), (.b false), (.l []), (.b false), (.i .i64 0), (.i .i64 0), (.b false), (.l []), (.l [])], .as 7 (.c (.b false))] [])
 (.seq (.s [.q 11 (.ld 22 true) [(.t 3)], .mv 12 (.t 1), .call (some 13) 80 [(.t 11), (.t 12)], .mv 10 (.t 13), .ext 14 0 10, .ext 15 1 10, .alo 8 [(.i .i64 0), (.i .i64 0), (.i .i64 0), (.i .i64 0), (.s []), (.s []), (.s [])], .sto 7 (.t 8) (.t 14), .as 9 (.t 15)] [11, 12, 13, 10, 14, 15])
 (.seq (.seq (.q [(17, (.op (.un .not) [(.sl 9)]))])
 (.cond (.sl 17) (.seq (.s [.bld 18 [(.s []), (.s []), (.s []), (.i .i64 0), (.i .i64 0), (.i .i64 0), (.i .i64 0), (.l []), (.b false), (.i .i64 0), (.i .i64 0), (.b false), (.l []), (.b false), (.i .i64 0), (.i .i64 0), (.b false), (.l []), (.l [])] [] [], .sto 19 (.t 6) (.t 18), .as 7 (.c (.b false))] [18])
 (.ret [6, 7])) .skip))
 (.seq (.s [.fa 19 17 1 (.t 3), .q 20 (.ld 1 false) [(.t 19)], .fa 21 5 1 (.t 8), .q 22 (.ld 1 false) [(.t 21)], .mv 23 (.t 2), .call (some 24) 63 [(.t 20), (.t 22), (.t 23)], .ext 25 0 24, .ext 26 1 24, .sto 19 (.t 6) (.t 25), .as 7 (.t 26)] [19, 20, 21, 22, 23, 24, 25, 26])
 (.ret [6, 7])))))⟩
theorem comp69 : compile Tryz.prog Tryz.f69 = some code69 := by kernel_rfl
theorem okf69 : okFn Tryz.prog 69 = true := by kernel_rfl
-- 70: corebank/corebankref24.Active
def code70 : FCode := ⟨3, [.tmp 6],
 (.seq (.s [.box 3 (.t 0), .as 6 (.c (.b false))] [])
 (.seq (.s [.q 10 (.ld 22 true) [(.t 3)], .mv 11 (.t 1), .call (some 12) 80 [(.t 10), (.t 11)], .mv 9 (.t 12), .ext 13 0 9, .ext 14 1 9, .alo 7 [(.i .i64 0), (.i .i64 0), (.i .i64 0), (.i .i64 0), (.s []), (.s []), (.s [])], .sto 7 (.t 7) (.t 13), .as 8 (.t 14)] [10, 11, 12, 9, 13, 14])
 (.seq (.q [(6, (.ite (.ite (.sl 8) (.op (.bin .leq) [(.op (.ld 1 false) [(.op (.fa 1 1) [(.sl 7)])]), (.sl 2)]) (.k (.b false))) (.ite (.op (.bin .eql) [(.op (.ld 1 false) [(.op (.fa 2 1) [(.sl 7)])]), (.k (.i .i64 0))]) (.k (.b true)) (.op (.bin .gtr) [(.op (.ld 1 false) [(.op (.fa 2 1) [(.sl 7)])]), (.sl 2)])) (.k (.b false))))])
 (.ret [6]))))⟩
theorem comp70 : compile Tryz.prog Tryz.f70 = some code70 := by kernel_rfl
theorem okf70 : okFn Tryz.prog 70 = true := by kernel_rfl
-- 71: corebank/chart.Under
def code71 : FCode := ⟨3, [.tmp 6],
 (.seq (.q [(6, (.k (.b false)))])
 (.seq (.q [(6, (.op (.call false 81) [(.op (.call false 82) [(.sl 0), (.sl 1)]), (.sl 2)]))])
 (.ret [6])))⟩
theorem comp71 : compile Tryz.prog Tryz.f71 = some code71 := by kernel_rfl
theorem okf71 : okFn Tryz.prog 71 = true := by kernel_rfl
-- 72: slices.ContainsFunc[[]int,int]
def code72 : FCode := ⟨2, [.tmp 4],
 (.seq (.q [(4, (.k (.b false)))])
 (.seq (.q [(4, (.op (.bin .geq) [(.op (.call false 83) [(.sl 0), (.sl 1)]), (.k (.i .i64 0))]))])
 (.ret [4])))⟩
theorem comp72 : compile Tryz.prog Tryz.f72 = some code72 := by kernel_rfl
theorem okf72 : okFn Tryz.prog 72 = true := by kernel_rfl
-- 73: corebank/report.belongs$1
def code73 : FCode := ⟨3, [.tmp 4],
 (.seq (.q [(4, (.k (.b false)))])
 (.seq (.q [(4, (.op (.call false 71) [(.op (.ld 1 false) [(.op (.fa 2 1) [(.sl 1)])]), (.op (.ld 1 false) [(.sl 2)]), (.sl 0)]))])
 (.ret [4])))⟩
theorem comp73 : compile Tryz.prog Tryz.f73 = some code73 := by kernel_rfl
theorem okf73 : okFn Tryz.prog 73 = true := by kernel_rfl
-- 74: corebank/account.index
def code74 : FCode := ⟨2, [.tmp 4],
 (.seq (.s [.box 2 (.t 0), .box 3 (.t 1), .as 4 (.c (.i .i64 0))] [])
 (.seq (.s [.fa 5 18 1 (.t 2), .q 6 (.ld 1 false) [(.t 5)], .mkf 7 (.func 85) 0 [(.t 3)], .call (some 8) 84 [(.t 6), (.t 7)], .as 4 (.t 8)] [5, 6, 7, 8])
 (.ret [4])))⟩
theorem comp74 : compile Tryz.prog Tryz.f74 = some code74 := by kernel_rfl
theorem okf74 : okFn Tryz.prog 74 = true := by kernel_rfl
-- 75: corebank/corebankref10.count
def body75_1 : C :=
 (.seq (.seq (.q [(16, (.ite (.op (.bin .lss) [(.sl 6), (.op .len [(.op (.ld 1 false) [(.op (.fa 3 1) [(.sl 2)])])])]) (.op (.bin .leq) [(.sl 5), (.sl 1)]) (.k (.b false))))])
 (.cond (.sl 16) .skip (.exit 0 [5])))
 (.seq (.blk 1 (.q [(5, (.op (.bin .add) [(.sl 5), (.op (.call false 75) [(.op (.ld 4 true) [(.op (.ix 4) [(.op (.ld 1 false) [(.op (.fa 3 1) [(.sl 2)])]), (.sl 6)])]), (.op (.bin .sub) [(.sl 1), (.sl 5)])])]))]))
 (.q [(6, (.op (.bin .add) [(.sl 6), (.k (.i .i64 1))]))])))
def code75 : FCode := ⟨2, [.tmp 4],
 (.seq (.s [.box 2 (.t 0), .as 4 (.c (.i .i64 0))] [])
 (.seq (.q [(5, (.k (.i .i64 1)))])
 (.seq (.seq (.q [(6, (.k (.i .i64 0)))])
 (.blk 0 (.loop [1, 2, 5, 6] body75_1)))
 (.seq (.q [(4, (.sl 5))])
 (.ret [4])))))⟩
theorem comp75 : compile Tryz.prog Tryz.f75 = some code75 := by kernel_rfl
theorem okf75 : okFn Tryz.prog 75 = true := by kernel_rfl
-- 76: corebank/corebankref11.Of
def code76 : FCode := ⟨2, [.tmp 4, .tmp 5],
 (.seq (.s [.box 2 (.t 0), .as 4 (.c (.i .i64 0)), .as 5 (.c (.i .i64 0))] [])
 (.seq (.q [(6, (.op (.call false 86) [(.op (.ld 4 true) [(.sl 2)])]))])
 (.seq (.seq (.q [(10, (.op (.bin .neq) [(.sl 6), (.k (.i .i64 0))]))])
 (.cond (.sl 10) (.seq (.q [(4, (.k (.i .i64 0))), (5, (.sl 6))])
 (.ret [4, 5])) .skip))
 (.seq (.q [(4, (.op (.ext 0) [(.op (.call false 87) [(.op (.ld 4 true) [(.sl 2)]), (.sl 1)])])), (5, (.op (.ext 1) [(.op (.call false 87) [(.op (.ld 4 true) [(.sl 2)]), (.sl 1)])]))])
 (.ret [4, 5])))))⟩
theorem comp76 : compile Tryz.prog Tryz.f76 = some code76 := by kernel_rfl
theorem okf76 : okFn Tryz.prog 76 = true := by kernel_rfl
-- 77: corebank/corebankref08.Seal
def code77 : FCode := ⟨1, [.tmp 2, .tmp 3],
 (.seq (.q [(2, (.k (.s []))), (3, (.k (.i .i64 0)))])
 (.seq (.seq (.q [(12, (.ite (.op (.bin .lss) [(.op .slen [(.sl 0)]), (.k (.i .i64 1))]) (.k (.b true)) (.op (.bin .gtr) [(.op .slen [(.sl 0)]), (.k (.i .i64 46))])))])
 (.cond (.sl 12) (.seq (.q [(2, (.k (.s []))), (3, (.k (.i .i64 5)))])
 (.ret [2, 3])) .skip))
 (.seq (.seq (.q [(15, (.op (.un .not) [(.op (.call false 88) [(.sl 0)])]))])
 (.cond (.sl 15) (.seq (.q [(2, (.k (.s []))), (3, (.k (.i .i64 2)))])
 (.ret [2, 3])) .skip))
 (.seq (.q [(4, (.op (.bin .sub) [(.k (.i .i64 98)), (.op (.call false 89) [(.op (.bin .add) [(.sl 0), (.k (.s [48, 48]))])])]))])
 (.seq (.q [(2, (.op (.bin .add) [(.op (.bin .add) [(.sl 0), (.op (.slcs true true) [(.k (.s [48, 49, 50, 51, 52, 53, 54, 55, 56, 57])), (.op (.bin .quo) [(.sl 4), (.k (.i .i64 10))]), (.op (.bin .add) [(.op (.bin .quo) [(.sl 4), (.k (.i .i64 10))]), (.k (.i .i64 1))])])]), (.op (.slcs true true) [(.k (.s [48, 49, 50, 51, 52, 53, 54, 55, 56, 57])), (.op (.bin .rem) [(.sl 4), (.k (.i .i64 10))]), (.op (.bin .add) [(.op (.bin .rem) [(.sl 4), (.k (.i .i64 10))]), (.k (.i .i64 1))])])])), (3, (.k (.i .i64 0)))])
 (.ret [2, 3]))))))⟩
theorem comp77 : compile Tryz.prog Tryz.f77 = some code77 := by kernel_rfl
theorem okf77 : okFn Tryz.prog 77 = true := by kernel_rfl
-- 78: corebank/corebankref19.Code
def body78_1 : C :=
 (.seq (.seq (.q [(10, (.op (.bin .lss) [(.sl 3), (.op .slen [(.sl 0)])]))])
 (.cond (.sl 10) .skip (.exit 0 [])))
 (.seq (.blk 1 (.seq (.q [(22, (.ite (.op (.bin .lss) [(.op .idx [(.sl 0), (.sl 3)]), (.k (.i .u8 65))]) (.k (.b true)) (.op (.bin .gtr) [(.op .idx [(.sl 0), (.sl 3)]), (.k (.i .u8 90))])))])
 (.cond (.sl 22) (.seq (.q [(2, (.k (.b false)))])
 (.ret [2])) .skip)))
 (.q [(3, (.op (.bin .add) [(.sl 3), (.k (.i .i64 1))]))])))
def code78 : FCode := ⟨1, [.tmp 2],
 (.seq (.q [(2, (.k (.b false)))])
 (.seq (.seq (.q [(6, (.op (.bin .neq) [(.op .slen [(.sl 0)]), (.k (.i .i64 3))]))])
 (.cond (.sl 6) (.seq (.q [(2, (.k (.b false)))])
 (.ret [2])) .skip))
 (.seq (.seq (.q [(3, (.k (.i .i64 0)))])
 (.blk 0 (.loop [0, 3] body78_1)))
 (.seq (.q [(2, (.k (.b true)))])
 (.ret [2])))))⟩
theorem comp78 : compile Tryz.prog Tryz.f78 = some code78 := by kernel_rfl
theorem okf78 : okFn Tryz.prog 78 = true := by kernel_rfl
-- 79: corebank/corebankref18.Under
def body79_1 : C :=
 (.seq (.seq (.q [(15, (.op (.bin .lss) [(.sl 8), (.op .len [(.sl 7)])]))])
 (.cond (.sl 15) .skip (.exit 0 [])))
 (.seq (.blk 1 (.seq (.q [(23, (.op (.bin .eql) [(.op (.ld 1 false) [(.op (.ix 1) [(.sl 7), (.sl 8)])]), (.sl 2)]))])
 (.cond (.sl 23) (.seq (.q [(6, (.k (.b true)))])
 (.ret [6])) .skip)))
 (.q [(8, (.op (.bin .add) [(.sl 8), (.k (.i .i64 1))]))])))
def code79 : FCode := ⟨3, [.tmp 6],
 (.seq (.q [(6, (.k (.b false)))])
 (.seq (.s [.mv 9 (.t 0), .mv 10 (.t 1), .call (some 11) 90 [(.t 9), (.t 10)], .as 7 (.t 11)] [9, 10, 11])
 (.seq (.seq (.q [(8, (.k (.i .i64 0)))])
 (.blk 0 (.loop [2, 7, 8] body79_1)))
 (.seq (.q [(6, (.k (.b false)))])
 (.ret [6])))))⟩
theorem comp79 : compile Tryz.prog Tryz.f79 = some code79 := by kernel_rfl
theorem okf79 : okFn Tryz.prog 79 = true := by kernel_rfl
-- 80: corebank/corebankref24.Find
def body80_1 : C :=
 (.seq (.seq (.q [(11, (.op (.bin .lss) [(.sl 6), (.op .len [(.op (.ld 1 false) [(.op (.fa 18 1) [(.sl 2)])])])]))])
 (.cond (.sl 11) .skip (.exit 0 [4])))
 (.seq (.blk 1 (.seq (.q [(21, (.op (.bin .eql) [(.op (.ld 1 false) [(.op (.fa 0 1) [(.op (.ix 7) [(.op (.ld 1 false) [(.op (.fa 18 1) [(.sl 2)])]), (.sl 6)])])]), (.sl 1)]))])
 (.cond (.sl 21) (.seq (.s [.fa 22 18 1 (.t 2), .q 23 (.ld 1 false) [(.t 22)], .mv 24 (.t 6), .ix 25 7 (.t 23) (.t 24), .q 26 (.ld 7 true) [(.t 25)], .sto 7 (.t 4) (.t 26), .as 5 (.c (.b true))] [22, 23, 24, 25, 26])
 (.ret [4, 5])) .skip)))
 (.q [(6, (.op (.bin .add) [(.sl 6), (.k (.i .i64 1))]))])))
def code80 : FCode := ⟨2, [.cell 4 7 true, .tmp 5],
 (.seq (.s [.box 2 (.t 0), .alo 4 [(.i .i64 0), (.i .i64 0), (.i .i64 0), (.i .i64 0), (.s []), (.s []), (.s [])], .as 5 (.c (.b false))] [])
 (.seq (.seq (.q [(6, (.k (.i .i64 0)))])
 (.blk 0 (.loop [1, 2, 4, 6] body80_1)))
 (.seq (.s [.bld 27 [(.i .i64 0), (.i .i64 0), (.i .i64 0), (.i .i64 0), (.s []), (.s []), (.s [])] [] [], .sto 7 (.t 4) (.t 27), .as 5 (.c (.b false))] [27])
 (.ret [4, 5]))))⟩
theorem comp80 : compile Tryz.prog Tryz.f80 = some code80 := by kernel_rfl
theorem okf80 : okFn Tryz.prog 80 = true := by kernel_rfl
-- 81: slices.Contains[[]int,int]
def code81 : FCode := ⟨2, [.tmp 4],
 (.seq (.q [(4, (.k (.b false)))])
 (.seq (.q [(4, (.op (.bin .geq) [(.op (.call false 91) [(.sl 0), (.sl 1)]), (.k (.i .i64 0))]))])
 (.ret [4])))⟩
theorem comp81 : compile Tryz.prog Tryz.f81 = some code81 := by kernel_rfl
theorem okf81 : okFn Tryz.prog 81 = true := by kernel_rfl
-- 82: corebank/chart.Path
def body82_1 : C :=
 (.seq (.seq (.q [(19, (.ite (.sl 7) (.op (.bin .lss) [(.op .len [(.sl 5)]), (.k (.i .i64 40))]) (.k (.b false))))])
 (.cond (.sl 19) .skip (.exit 0 [5])))
 (.blk 1 (.seq (.s [.mv 20 (.t 5), .fa 21 0 1 (.t 6), .q 22 (.ld 1 false) [(.t 21)], .bsl 23 3 1 [(.t 22)], .app 24 3 1 8 (.t 20) (.t 23), .as 5 (.t 24)] [20, 21, 22, 23, 24])
 (.seq (.seq (.q [(27, (.op (.bin .eql) [(.op (.ld 1 false) [(.op (.fa 1 1) [(.sl 6)])]), (.k (.i .i64 0))]))])
 (.cond (.sl 27) (.exit 0 [5]) .skip))
 (.s [.mv 29 (.t 0), .fa 30 1 1 (.t 6), .q 31 (.ld 1 false) [(.t 30)], .call (some 32) 55 [(.t 29), (.t 31)], .mv 28 (.t 32), .ext 33 0 28, .ext 34 1 28, .sto 4 (.t 6) (.t 33), .as 7 (.t 34)] [29, 30, 31, 32, 28, 33, 34])))))
def code82 : FCode := ⟨2, [.tmp 4],
 (.seq (.s [.as 4 (.c (.ow 3 []))] [])
 (.seq (.s [.as 5 (.c (.ow 3 []))] [])
 (.seq (.s [.mv 9 (.t 0), .mv 10 (.t 1), .call (some 11) 55 [(.t 9), (.t 10)], .mv 8 (.t 11), .ext 12 0 8, .ext 13 1 8, .alo 6 [(.i .i64 0), (.i .i64 0), (.i .i64 0), (.s [])], .sto 4 (.t 6) (.t 12), .as 7 (.t 13)] [9, 10, 11, 8, 12, 13])
 (.seq (.blk 0 (.loop [0, 5, 6, 7] body82_1))
 (.seq (.s [.mv 35 (.t 5), .callm (some 36) 92 (mutOf 92) (.t 35) []] [35, 36])
 (.seq (.s [.mv 37 (.t 5), .as 4 (.t 37)] [37])
 (.ret [4])))))))⟩
theorem comp82 : compile Tryz.prog Tryz.f82 = some code82 := by kernel_rfl
theorem okf82 : okFn Tryz.prog 82 = true := by kernel_rfl
-- 83: slices.IndexFunc[[]int,int]
def body83_1 : C :=
 (.seq (.q [(9, (.op (.bin .lss) [(.sl 8), (.sl 7)]))])
 (.seq (.cond (.sl 9) .skip (.exit 0 []))
 (.seq (.blk 1 (.seq (.q [(5, (.sl 8))])
 (.seq (.q [(16, (.op (.callv false) [(.sl 1), (.op (.ld 1 false) [(.op (.ix 1) [(.sl 0), (.sl 5)])])]))])
 (.cond (.sl 16) (.seq (.q [(4, (.sl 5))])
 (.ret [4])) .skip))))
 (.q [(8, (.op (.bin .add) [(.sl 8), (.k (.i .i64 1))]))]))))
def code83 : FCode := ⟨2, [.tmp 4],
 (.seq (.q [(4, (.k (.i .i64 0)))])
 (.seq (.seq (.q [(7, (.op .len [(.sl 0)])), (8, (.k (.i .i64 0)))])
 (.blk 0 (.loop [0, 1, 7, 8] body83_1)))
 (.seq (.q [(4, (.k (.i .i64 (-1))))])
 (.ret [4]))))⟩
theorem comp83 : compile Tryz.prog Tryz.f83 = some code83 := by kernel_rfl
theorem okf83 : okFn Tryz.prog 83 = true := by kernel_rfl
-- 84: slices.IndexFunc[[]corebank/api.Account,corebank/api.Account]
def body84_1 : C :=
 (.seq (.q [(9, (.op (.bin .lss) [(.sl 8), (.sl 7)]))])
 (.seq (.cond (.sl 9) .skip (.exit 0 []))
 (.seq (.blk 1 (.seq (.q [(5, (.sl 8))])
 (.seq (.q [(16, (.op (.callv false) [(.sl 1), (.op (.ld 7 true) [(.op (.ix 7) [(.sl 0), (.sl 5)])])]))])
 (.cond (.sl 16) (.seq (.q [(4, (.sl 5))])
 (.ret [4])) .skip))))
 (.q [(8, (.op (.bin .add) [(.sl 8), (.k (.i .i64 1))]))]))))
def code84 : FCode := ⟨2, [.tmp 4],
 (.seq (.q [(4, (.k (.i .i64 0)))])
 (.seq (.seq (.q [(7, (.op .len [(.sl 0)])), (8, (.k (.i .i64 0)))])
 (.blk 0 (.loop [0, 1, 7, 8] body84_1)))
 (.seq (.q [(4, (.k (.i .i64 (-1))))])
 (.ret [4]))))⟩
theorem comp84 : compile Tryz.prog Tryz.f84 = some code84 := by kernel_rfl
theorem okf84 : okFn Tryz.prog 84 = true := by kernel_rfl
-- 85: corebank/account.index$1
def code85 : FCode := ⟨2, [.tmp 3],
 (.seq (.s [.box 2 (.t 0), .as 3 (.c (.b false))] [])
 (.seq (.q [(3, (.op (.bin .eql) [(.op (.ld 1 false) [(.op (.fa 0 1) [(.sl 2)])]), (.op (.ld 1 false) [(.sl 1)])]))])
 (.ret [3])))⟩
theorem comp85 : compile Tryz.prog Tryz.f85 = some code85 := by kernel_rfl
theorem okf85 : okFn Tryz.prog 85 = true := by kernel_rfl
-- 86: corebank/corebankref10.Validate
def body86_1 : C :=
 (.seq (.seq (.q [(20, (.op (.bin .lss) [(.sl 4), (.op .len [(.sl 3)])]))])
 (.cond (.sl 20) .skip (.exit 0 [])))
 (.seq (.blk 1 (.seq (.q [(28, (.op (.un .not) [(.op (.call false 96) [(.op (.ld 1 false) [(.op (.ix 1) [(.sl 3), (.sl 4)])])])]))])
 (.cond (.sl 28) (.seq (.q [(2, (.k (.i .i64 4)))])
 (.ret [2])) .skip)))
 (.q [(4, (.op (.bin .add) [(.sl 4), (.k (.i .i64 1))]))])))
def code86 : FCode := ⟨1, [.tmp 2],
 (.seq (.s [.box 1 (.t 0), .as 2 (.c (.i .i64 0))] [])
 (.seq (.seq (.q [(11, (.ite (.op (.call false 57) [(.op (.ld 4 true) [(.sl 1)]), (.k (.i .i64 64))]) (.k (.b true)) (.op (.bin .gtr) [(.op (.call false 93) [(.op (.ld 4 true) [(.sl 1)])]), (.k (.i .i64 8))])))])
 (.cond (.sl 11) (.seq (.q [(2, (.k (.i .i64 5)))])
 (.ret [2])) .skip))
 (.seq (.seq (.q [(14, (.op (.un .not) [(.op (.call false 94) [(.op (.ld 4 true) [(.sl 1)])])]))])
 (.cond (.sl 14) (.seq (.q [(2, (.k (.i .i64 1)))])
 (.ret [2])) .skip))
 (.seq (.s [.q 15 (.ld 4 true) [(.t 1)], .call (some 16) 95 [(.t 15)], .as 3 (.t 16)] [15, 16])
 (.seq (.seq (.q [(4, (.k (.i .i64 0)))])
 (.blk 0 (.loop [3, 4] body86_1)))
 (.seq (.q [(2, (.k (.i .i64 0)))])
 (.ret [2])))))))⟩
theorem comp86 : compile Tryz.prog Tryz.f86 = some code86 := by kernel_rfl
theorem okf86 : okFn Tryz.prog 86 = true := by kernel_rfl
-- 87: corebank/corebankref11.of
def body87_1 : C :=
 (.seq (.seq (.q [(26, (.op (.bin .lss) [(.sl 6), (.op .len [(.sl 1)])]))])
 (.cond (.sl 26) .skip (.exit 1 [])))
 (.seq (.blk 2 (.seq (.seq (.q [(44, (.ite (.op (.bin .eql) [(.op (.ld 1 false) [(.op (.fa 0 1) [(.op (.ix 2) [(.sl 1), (.sl 6)])])]), (.op (.ld 1 false) [(.op (.fa 2 1) [(.sl 2)])])]) (.op (.call true 97) [(.op (.ld 1 false) [(.op (.fa 1 1) [(.op (.ix 2) [(.sl 1), (.sl 6)])])])]) (.k (.b false))))])
 (.cond (.sl 44) (.seq (.q [(4, (.op (.ld 1 false) [(.op (.fa 1 1) [(.op (.ix 2) [(.sl 1), (.sl 6)])])])), (5, (.k (.i .i64 0)))])
 (.ret [4, 5])) .skip))
 (.seq (.q [(57, (.op (.bin .eql) [(.op (.ld 1 false) [(.op (.fa 0 1) [(.op (.ix 2) [(.sl 1), (.sl 6)])])]), (.op (.ld 1 false) [(.op (.fa 2 1) [(.sl 2)])])]))])
 (.cond (.sl 57) (.seq (.q [(4, (.k (.i .i64 0))), (5, (.k (.i .i64 3)))])
 (.ret [4, 5])) .skip))))
 (.q [(6, (.op (.bin .add) [(.sl 6), (.k (.i .i64 1))]))])))
def body87_2 : C :=
 (.seq (.seq (.q [(63, (.op (.bin .lss) [(.sl 8), (.op .len [(.op (.ld 1 false) [(.op (.fa 3 1) [(.sl 2)])])])]))])
 (.cond (.sl 63) .skip (.exit 3 [2, 7])))
 (.seq (.blk 4 (.seq (.q [(9, (.op (.ext 0) [(.op (.call false 87) [(.op (.ld 4 true) [(.op (.ix 4) [(.op (.ld 1 false) [(.op (.fa 3 1) [(.sl 2)])]), (.sl 8)])]), (.sl 1)])])), (10, (.op (.ext 1) [(.op (.call false 87) [(.op (.ld 4 true) [(.op (.ix 4) [(.op (.ld 1 false) [(.op (.fa 3 1) [(.sl 2)])]), (.sl 8)])]), (.sl 1)])]))])
 (.seq (.seq (.q [(77, (.op (.bin .neq) [(.sl 10), (.k (.i .i64 0))]))])
 (.cond (.sl 77) (.seq (.q [(4, (.k (.i .i64 0))), (5, (.sl 10))])
 (.ret [4, 5])) .skip))
 (.s [.mv 79 (.t 7), .mv 80 (.t 9), .bsl 81 3 1 [(.t 80)], .app 82 3 1 8 (.t 79) (.t 81), .as 7 (.t 82)] [79, 80, 81, 82]))))
 (.q [(8, (.op (.bin .add) [(.sl 8), (.k (.i .i64 1))]))])))
def code87 : FCode := ⟨2, [.tmp 4, .tmp 5],
 (.seq (.s [.box 2 (.t 0), .as 4 (.c (.i .i64 0)), .as 5 (.c (.i .i64 0))] [])
 (.seq (.seq (.q [(14, (.op (.ld 1 false) [(.op (.fa 0 1) [(.sl 2)])]))])
 (.blk 0 (.seq (.q [(15, (.op (.bin .eql) [(.sl 14), (.k (.i .i64 1))]))])
 (.cond (.sl 15) (.seq (.q [(4, (.k (.i .i64 1))), (5, (.k (.i .i64 0)))])
 (.ret [4, 5])) (.seq (.q [(17, (.op (.bin .eql) [(.sl 14), (.k (.i .i64 2))]))])
 (.cond (.sl 17) (.seq (.q [(4, (.k (.i .i64 2))), (5, (.k (.i .i64 0)))])
 (.ret [4, 5])) (.seq (.q [(19, (.op (.bin .eql) [(.sl 14), (.k (.i .i64 3))]))])
 (.cond (.sl 19) (.seq (.q [(4, (.k (.i .i64 3))), (5, (.k (.i .i64 0)))])
 (.ret [4, 5])) (.seq (.q [(21, (.op (.bin .eql) [(.sl 14), (.k (.i .i64 4))]))])
 (.cond (.sl 21) (.seq (.seq (.q [(6, (.k (.i .i64 0)))])
 (.blk 1 (.loop [1, 2, 6] body87_1)))
 (.seq (.q [(4, (.k (.i .i64 0))), (5, (.k (.i .i64 4)))])
 (.ret [4, 5]))) .skip))))))))))
 (.seq (.s [.bsl 58 3 1 [], .as 7 (.t 58)] [58])
 (.seq (.seq (.q [(8, (.k (.i .i64 0)))])
 (.blk 3 (.loop [1, 2, 7, 8] body87_2)))
 (.seq (.q [(11, (.op (.ext 0) [(.op (.call false 98) [(.op (.ld 1 false) [(.op (.fa 0 1) [(.sl 2)])]), (.sl 7)])])), (12, (.op (.ext 1) [(.op (.call false 98) [(.op (.ld 1 false) [(.op (.fa 0 1) [(.sl 2)])]), (.sl 7)])]))])
 (.seq (.seq (.q [(91, (.op (.un .not) [(.sl 12)]))])
 (.cond (.sl 91) (.seq (.q [(4, (.k (.i .i64 0))), (5, (.k (.i .i64 3)))])
 (.ret [4, 5])) .skip))
 (.seq (.q [(4, (.sl 11)), (5, (.k (.i .i64 0)))])
 (.ret [4, 5]))))))))⟩
theorem comp87 : compile Tryz.prog Tryz.f87 = some code87 := by kernel_rfl
theorem okf87 : okFn Tryz.prog 87 = true := by kernel_rfl
-- 88: corebank/corebankref08.Plain
def body88_1 : C :=
 (.seq (.seq (.q [(7, (.op (.bin .lss) [(.sl 3), (.op .slen [(.sl 0)])]))])
 (.cond (.sl 7) .skip (.exit 0 [])))
 (.seq (.blk 1 (.seq (.q [(31, (.ite (.ite (.op (.bin .lss) [(.op .idx [(.sl 0), (.sl 3)]), (.k (.i .u8 48))]) (.k (.b true)) (.op (.bin .gtr) [(.op .idx [(.sl 0), (.sl 3)]), (.k (.i .u8 57))])) (.ite (.op (.bin .lss) [(.op .idx [(.sl 0), (.sl 3)]), (.k (.i .u8 65))]) (.k (.b true)) (.op (.bin .gtr) [(.op .idx [(.sl 0), (.sl 3)]), (.k (.i .u8 90))])) (.k (.b false))))])
 (.cond (.sl 31) (.seq (.q [(2, (.k (.b false)))])
 (.ret [2])) .skip)))
 (.q [(3, (.op (.bin .add) [(.sl 3), (.k (.i .i64 1))]))])))
def code88 : FCode := ⟨1, [.tmp 2],
 (.seq (.q [(2, (.k (.b false)))])
 (.seq (.seq (.q [(3, (.k (.i .i64 0)))])
 (.blk 0 (.loop [0, 3] body88_1)))
 (.seq (.q [(2, (.k (.b true)))])
 (.ret [2]))))⟩
theorem comp88 : compile Tryz.prog Tryz.f88 = some code88 := by kernel_rfl
theorem okf88 : okFn Tryz.prog 88 = true := by kernel_rfl
-- 89: corebank/corebankref08.rest
def body89_1 : C :=
 (.seq (.seq (.q [(8, (.op (.bin .lss) [(.sl 4), (.op .slen [(.sl 0)])]))])
 (.cond (.sl 8) .skip (.exit 0 [3])))
 (.seq (.blk 1 (.seq (.q [(14, (.op (.bin .leq) [(.op .idx [(.sl 0), (.sl 4)]), (.k (.i .u8 57))]))])
 (.cond (.sl 14) (.q [(3, (.op (.bin .rem) [(.op (.bin .add) [(.op (.bin .mul) [(.k (.i .i64 10)), (.sl 3)]), (.op (.cnv .i64) [(.op (.bin .sub) [(.op .idx [(.sl 0), (.sl 4)]), (.k (.i .u8 48))])])]), (.k (.i .i64 97))]))]) (.q [(3, (.op (.bin .rem) [(.op (.bin .add) [(.op (.bin .add) [(.op (.bin .mul) [(.k (.i .i64 100)), (.sl 3)]), (.op (.cnv .i64) [(.op (.bin .sub) [(.op .idx [(.sl 0), (.sl 4)]), (.k (.i .u8 65))])])]), (.k (.i .i64 10))]), (.k (.i .i64 97))]))]))))
 (.q [(4, (.op (.bin .add) [(.sl 4), (.k (.i .i64 1))]))])))
def code89 : FCode := ⟨1, [.tmp 2],
 (.seq (.q [(2, (.k (.i .i64 0)))])
 (.seq (.q [(3, (.k (.i .i64 0)))])
 (.seq (.seq (.q [(4, (.k (.i .i64 0)))])
 (.blk 0 (.loop [0, 3, 4] body89_1)))
 (.seq (.q [(2, (.sl 3))])
 (.ret [2])))))⟩
theorem comp89 : compile Tryz.prog Tryz.f89 = some code89 := by kernel_rfl
theorem okf89 : okFn Tryz.prog 89 = true := by kernel_rfl
-- 90: corebank/corebankref18.Path
def body90_1 : C :=
 (.seq (.seq (.q [(19, (.ite (.sl 7) (.op (.bin .lss) [(.op .len [(.sl 5)]), (.k (.i .i64 40))]) (.k (.b false))))])
 (.cond (.sl 19) .skip (.exit 0 [5])))
 (.blk 1 (.seq (.s [.fa 20 0 1 (.t 6), .q 21 (.ld 1 false) [(.t 20)], .bsl 22 3 1 [(.t 21)], .mv 23 (.t 5), .app 24 3 1 8 (.t 22) (.t 23), .as 5 (.t 24)] [20, 21, 22, 23, 24])
 (.seq (.seq (.q [(27, (.op (.bin .eql) [(.op (.ld 1 false) [(.op (.fa 1 1) [(.sl 6)])]), (.k (.i .i64 0))]))])
 (.cond (.sl 27) (.seq (.s [.mv 28 (.t 5), .as 4 (.t 28)] [28])
 (.ret [4])) .skip))
 (.s [.mv 30 (.t 0), .fa 31 1 1 (.t 6), .q 32 (.ld 1 false) [(.t 31)], .call (some 33) 32 [(.t 30), (.t 32)], .mv 29 (.t 33), .ext 34 0 29, .ext 35 1 29, .sto 4 (.t 6) (.t 34), .as 7 (.t 35)] [30, 31, 32, 33, 29, 34, 35])))))
def code90 : FCode := ⟨2, [.tmp 4],
 (.seq (.s [.as 4 (.c (.ow 3 []))] [])
 (.seq (.s [.as 5 (.c (.ow 3 []))] [])
 (.seq (.s [.mv 9 (.t 0), .mv 10 (.t 1), .call (some 11) 32 [(.t 9), (.t 10)], .mv 8 (.t 11), .ext 12 0 8, .ext 13 1 8, .alo 6 [(.i .i64 0), (.i .i64 0), (.i .i64 0), (.s [])], .sto 4 (.t 6) (.t 12), .as 7 (.t 13)] [9, 10, 11, 8, 12, 13])
 (.seq (.blk 0 (.loop [0, 5, 6, 7] body90_1))
 (.seq (.s [.mv 36 (.t 5), .as 4 (.t 36)] [36])
 (.ret [4]))))))⟩
theorem comp90 : compile Tryz.prog Tryz.f90 = some code90 := by kernel_rfl
theorem okf90 : okFn Tryz.prog 90 = true := by kernel_rfl
-- 91: slices.Index[[]int,int]
def body91_1 : C :=
 (.seq (.q [(9, (.op (.bin .lss) [(.sl 8), (.sl 7)]))])
 (.seq (.cond (.sl 9) .skip (.exit 0 []))
 (.seq (.blk 1 (.seq (.q [(5, (.sl 8))])
 (.seq (.q [(16, (.op (.bin .eql) [(.sl 1), (.op (.ld 1 false) [(.op (.ix 1) [(.sl 0), (.sl 5)])])]))])
 (.cond (.sl 16) (.seq (.q [(4, (.sl 5))])
 (.ret [4])) .skip))))
 (.q [(8, (.op (.bin .add) [(.sl 8), (.k (.i .i64 1))]))]))))
def code91 : FCode := ⟨2, [.tmp 4],
 (.seq (.q [(4, (.k (.i .i64 0)))])
 (.seq (.seq (.q [(7, (.op .len [(.sl 0)])), (8, (.k (.i .i64 0)))])
 (.blk 0 (.loop [0, 1, 7, 8] body91_1)))
 (.seq (.q [(4, (.k (.i .i64 (-1))))])
 (.ret [4]))))⟩
theorem comp91 : compile Tryz.prog Tryz.f91 = some code91 := by kernel_rfl
theorem okf91 : okFn Tryz.prog 91 = true := by kernel_rfl
-- 93: corebank/corebankref10.Depth
def body93_1 : C :=
 (.seq (.seq (.q [(9, (.op (.bin .lss) [(.sl 4), (.op .len [(.op (.ld 1 false) [(.op (.fa 3 1) [(.sl 1)])])])]))])
 (.cond (.sl 9) .skip (.exit 0 [3])))
 (.seq (.blk 1 (.q [(3, (.op .mx [(.sl 3), (.op (.call false 93) [(.op (.ld 4 true) [(.op (.ix 4) [(.op (.ld 1 false) [(.op (.fa 3 1) [(.sl 1)])]), (.sl 4)])])])]))]))
 (.q [(4, (.op (.bin .add) [(.sl 4), (.k (.i .i64 1))]))])))
def code93 : FCode := ⟨1, [.tmp 2],
 (.seq (.s [.box 1 (.t 0), .as 2 (.c (.i .i64 0))] [])
 (.seq (.q [(3, (.k (.i .i64 0)))])
 (.seq (.seq (.q [(4, (.k (.i .i64 0)))])
 (.blk 0 (.loop [1, 3, 4] body93_1)))
 (.seq (.q [(2, (.op (.bin .add) [(.sl 3), (.k (.i .i64 1))]))])
 (.ret [2])))))⟩
theorem comp93 : compile Tryz.prog Tryz.f93 = some code93 := by kernel_rfl
theorem okf93 : okFn Tryz.prog 93 = true := by kernel_rfl
-- 94: corebank/corebankref10.right
def body94_1 : C :=
 (.seq (.seq (.q [(38, (.op (.bin .lss) [(.sl 3), (.op .len [(.op (.ld 1 false) [(.op (.fa 3 1) [(.sl 1)])])])]))])
 (.cond (.sl 38) .skip (.exit 0 [])))
 (.seq (.blk 1 (.seq (.q [(47, (.op (.un .not) [(.op (.call false 94) [(.op (.ld 4 true) [(.op (.ix 4) [(.op (.ld 1 false) [(.op (.fa 3 1) [(.sl 1)])]), (.sl 3)])])])]))])
 (.cond (.sl 47) (.seq (.q [(2, (.k (.b false)))])
 (.ret [2])) .skip)))
 (.q [(3, (.op (.bin .add) [(.sl 3), (.k (.i .i64 1))]))])))
def code94 : FCode := ⟨1, [.tmp 2],
 (.seq (.s [.box 1 (.t 0), .as 2 (.c (.b false))] [])
 (.seq (.seq (.q [(33, (.ite (.ite (.ite (.op (.bin .neq) [(.op .len [(.op (.ld 1 false) [(.op (.fa 3 1) [(.sl 1)])])]), (.op (.call true 99) [(.op (.ld 1 false) [(.op (.fa 0 1) [(.sl 1)])])])]) (.k (.b true)) (.op (.bin .lss) [(.op (.ld 1 false) [(.op (.fa 1 1) [(.sl 1)])]), (.k (.i .i64 0))])) (.k (.b true)) (.op (.bin .gtr) [(.op (.ld 1 false) [(.op (.fa 1 1) [(.sl 1)])]), (.op (.call true 100) [(.op (.ld 1 false) [(.op (.fa 0 1) [(.sl 1)])])])])) (.k (.b true)) (.ite (.op (.bin .neq) [(.op (.ld 1 false) [(.op (.fa 0 1) [(.sl 1)])]), (.k (.i .i64 4))]) (.op (.bin .neq) [(.op (.ld 1 false) [(.op (.fa 2 1) [(.sl 1)])]), (.k (.s []))]) (.k (.b false)))))])
 (.cond (.sl 33) (.seq (.q [(2, (.k (.b false)))])
 (.ret [2])) .skip))
 (.seq (.seq (.q [(3, (.k (.i .i64 0)))])
 (.blk 0 (.loop [1, 3] body94_1)))
 (.seq (.q [(2, (.k (.b true)))])
 (.ret [2])))))⟩
theorem comp94 : compile Tryz.prog Tryz.f94 = some code94 := by kernel_rfl
theorem okf94 : okFn Tryz.prog 94 = true := by kernel_rfl
-- 95: corebank/corebankref10.Names
def body95_1 : C :=
 (.seq (.seq (.q [(31, (.op (.bin .lss) [(.sl 6), (.op .len [(.sl 5)])]))])
 (.cond (.sl 31) .skip (.exit 2 [1, 3, 4])))
 (.seq (.blk 3 (.s [.mv 34 (.t 3), .mv 35 (.t 5), .mv 36 (.t 6), .ix 37 1 (.t 35) (.t 36), .q 38 (.ld 1 false) [(.t 37)], .call (some 39) 101 [(.t 34), (.t 38)], .as 3 (.t 39)] [34, 35, 36, 37, 38, 39]))
 (.q [(6, (.op (.bin .add) [(.sl 6), (.k (.i .i64 1))]))])))
def body95_2 : C :=
 (.seq (.seq (.q [(19, (.op (.bin .lss) [(.sl 4), (.op .len [(.op (.ld 1 false) [(.op (.fa 3 1) [(.sl 1)])])])]))])
 (.cond (.sl 19) .skip (.exit 0 [3])))
 (.seq (.blk 1 (.seq (.s [.fa 22 3 1 (.t 1), .q 23 (.ld 1 false) [(.t 22)], .mv 24 (.t 4), .ix 25 4 (.t 23) (.t 24), .q 26 (.ld 4 true) [(.t 25)], .call (some 27) 95 [(.t 26)], .as 5 (.t 27)] [22, 23, 24, 25, 26, 27])
 (.seq (.q [(6, (.k (.i .i64 0)))])
 (.blk 2 (.loop [1, 3, 4, 5, 6] body95_1)))))
 (.q [(4, (.op (.bin .add) [(.sl 4), (.k (.i .i64 1))]))])))
def code95 : FCode := ⟨1, [.tmp 2],
 (.seq (.s [.box 1 (.t 0), .as 2 (.c (.ow 9 []))] [])
 (.seq (.s [.as 3 (.c (.ow 9 []))] [])
 (.seq (.seq (.q [(9, (.op (.bin .eql) [(.op (.ld 1 false) [(.op (.fa 0 1) [(.sl 1)])]), (.k (.i .i64 4))]))])
 (.cond (.sl 9) (.s [.mv 10 (.t 3), .fa 11 2 1 (.t 1), .q 12 (.ld 1 false) [(.t 11)], .bsl 13 9 1 [(.t 12)], .app 14 9 1 16 (.t 10) (.t 13), .as 3 (.t 14)] [10, 11, 12, 13, 14]) .skip))
 (.seq (.seq (.q [(4, (.k (.i .i64 0)))])
 (.blk 0 (.loop [1, 3, 4] body95_2)))
 (.seq (.s [.mv 40 (.t 3), .as 2 (.t 40)] [40])
 (.ret [2]))))))⟩
theorem comp95 : compile Tryz.prog Tryz.f95 = some code95 := by kernel_rfl
theorem okf95 : okFn Tryz.prog 95 = true := by kernel_rfl
-- 96: corebank/corebankref10.Variable
def code96 : FCode := ⟨1, [.tmp 2],
 (.seq (.q [(2, (.k (.b false)))])
 (.seq (.q [(2, (.ite (.op (.call false 102) [(.sl 0)]) (.op (.un .not) [(.op (.call false 103) [(.sl 0)])]) (.k (.b false))))])
 (.ret [2])))⟩
theorem comp96 : compile Tryz.prog Tryz.f96 = some code96 := by kernel_rfl
theorem okf96 : okFn Tryz.prog 96 = true := by kernel_rfl
-- 97: corebank/corebankref11.Good
def code97 : FCode := ⟨1, [.tmp 2],
 (.seq (.q [(2, (.k (.b false)))])
 (.seq (.q [(2, (.ite (.op (.bin .geq) [(.sl 0), (.k (.i .i64 1))]) (.op (.bin .leq) [(.sl 0), (.k (.i .i64 5))]) (.k (.b false))))])
 (.ret [2])))⟩
theorem comp97 : compile Tryz.prog Tryz.f97 = some code97 := by kernel_rfl
theorem okf97 : okFn Tryz.prog 97 = true := by kernel_rfl
-- 98: corebank/corebankref11.Result
def body98_1 : C :=
 (.seq (.seq (.q [(15, (.op (.bin .lss) [(.sl 6), (.op .len [(.sl 1)])]))])
 (.cond (.sl 15) .skip (.exit 0 [0, 1])))
 (.seq (.blk 1 (.seq (.q [(23, (.op (.un .not) [(.op (.call false 97) [(.op (.ld 1 false) [(.op (.ix 1) [(.sl 1), (.sl 6)])])])]))])
 (.cond (.sl 23) (.seq (.q [(4, (.k (.i .i64 0))), (5, (.k (.b false)))])
 (.ret [4, 5])) .skip)))
 (.q [(6, (.op (.bin .add) [(.sl 6), (.k (.i .i64 1))]))])))
def code98 : FCode := ⟨2, [.tmp 4, .tmp 5],
 (.seq (.q [(4, (.k (.i .i64 0))), (5, (.k (.b false)))])
 (.seq (.seq (.q [(11, (.op (.bin .gtr) [(.op .len [(.sl 1)]), (.k (.i .i64 3))]))])
 (.cond (.sl 11) (.seq (.q [(4, (.k (.i .i64 0))), (5, (.k (.b false)))])
 (.ret [4, 5])) .skip))
 (.seq (.seq (.q [(6, (.k (.i .i64 0)))])
 (.blk 0 (.loop [0, 1, 6] body98_1)))
 (.seq (.q [(7, (.op (.ext 0) [(.op (.call false 104) [(.sl 0), (.sl 1)])])), (8, (.op (.ext 1) [(.op (.call false 104) [(.sl 0), (.sl 1)])]))])
 (.seq (.seq (.q [(31, (.op (.un .not) [(.sl 8)]))])
 (.cond (.sl 31) (.seq (.q [(4, (.k (.i .i64 0))), (5, (.k (.b false)))])
 (.ret [4, 5])) .skip))
 (.seq (.q [(4, (.sl 7)), (5, (.k (.b true)))])
 (.ret [4, 5])))))))⟩
theorem comp98 : compile Tryz.prog Tryz.f98 = some code98 := by kernel_rfl
theorem okf98 : okFn Tryz.prog 98 = true := by kernel_rfl
-- 99: corebank/corebankref10.Operands
def code99 : FCode := ⟨1, [.tmp 2],
 (.seq (.q [(2, (.k (.i .i64 0)))])
 (.seq (.blk 0 (.seq (.q [(3, (.ite (.op (.bin .lss) [(.sl 0), (.k (.i .i64 1))]) (.k (.b true)) (.op (.bin .gtr) [(.sl 0), (.k (.i .i64 19))])))])
 (.cond (.sl 3) (.seq (.q [(2, (.k (.i .i64 (-1))))])
 (.ret [2])) (.seq (.q [(10, (.op (.bin .leq) [(.sl 0), (.k (.i .i64 4))]))])
 (.cond (.sl 10) (.seq (.q [(2, (.k (.i .i64 0)))])
 (.ret [2])) (.seq (.q [(13, (.ite (.op (.bin .eql) [(.sl 0), (.k (.i .i64 9))]) (.k (.b true)) (.op (.bin .eql) [(.sl 0), (.k (.i .i64 16))])))])
 (.cond (.sl 13) (.seq (.q [(2, (.k (.i .i64 1)))])
 (.ret [2])) (.seq (.q [(20, (.op (.bin .eql) [(.sl 0), (.k (.i .i64 19))]))])
 (.cond (.sl 20) (.seq (.q [(2, (.k (.i .i64 3)))])
 (.ret [2])) .skip)))))))))
 (.seq (.q [(2, (.k (.i .i64 2)))])
 (.ret [2]))))⟩
theorem comp99 : compile Tryz.prog Tryz.f99 = some code99 := by kernel_rfl
theorem okf99 : okFn Tryz.prog 99 = true := by kernel_rfl
-- 100: corebank/corebankref10.most
def code100 : FCode := ⟨1, [.tmp 2],
 (.seq (.q [(2, (.k (.i .i64 0)))])
 (.seq (.seq (.q [(3, (.sl 0))])
 (.blk 0 (.seq (.q [(4, (.op (.bin .eql) [(.sl 3), (.k (.i .i64 1))]))])
 (.cond (.sl 4) (.seq (.q [(2, (.k (.i .i64 9223372036854775807)))])
 (.ret [2])) (.seq (.q [(6, (.op (.bin .eql) [(.sl 3), (.k (.i .i64 2))]))])
 (.cond (.sl 6) (.seq (.q [(2, (.k (.i .i64 1000000000000)))])
 (.ret [2])) (.seq (.q [(8, (.op (.bin .eql) [(.sl 3), (.k (.i .i64 3))]))])
 (.cond (.sl 8) (.seq (.q [(2, (.k (.i .i64 1000000)))])
 (.ret [2])) .skip))))))))
 (.seq (.q [(2, (.k (.i .i64 0)))])
 (.ret [2]))))⟩
theorem comp100 : compile Tryz.prog Tryz.f100 = some code100 := by kernel_rfl
theorem okf100 : okFn Tryz.prog 100 = true := by kernel_rfl
-- 101: corebank/corebankref10.insert
def body101_1 : C :=
 (.seq (.seq (.q [(18, (.ite (.op (.bin .lss) [(.sl 5), (.op .len [(.sl 0)])]) (.op (.bin .lss) [(.op (.ld 1 false) [(.op (.ix 1) [(.sl 0), (.sl 5)])]), (.sl 1)]) (.k (.b false))))])
 (.cond (.sl 18) .skip (.exit 0 [0, 1, 5])))
 (.blk 1 (.q [(5, (.op (.bin .add) [(.sl 5), (.k (.i .i64 1))]))])))
def code101 : FCode := ⟨2, [.tmp 4],
 (.seq (.s [.as 4 (.c (.ow 9 []))] [])
 (.seq (.q [(5, (.k (.i .i64 0)))])
 (.seq (.blk 0 (.loop [0, 1, 5] body101_1))
 (.seq (.seq (.q [(32, (.ite (.op (.bin .lss) [(.sl 5), (.op .len [(.sl 0)])]) (.op (.bin .eql) [(.op (.ld 1 false) [(.op (.ix 1) [(.sl 0), (.sl 5)])]), (.sl 1)]) (.k (.b false))))])
 (.cond (.sl 32) (.seq (.s [.mv 33 (.t 0), .as 4 (.t 33)] [33])
 (.ret [4])) .skip))
 (.seq (.s [.as 6 (.c (.ow 9 []))] [])
 (.seq (.s [.mv 34 (.t 6), .mv 35 (.t 0), .mv 36 (.t 5), .slc 37 1 false true [(.t 35), (.t 36)], .app 38 9 1 16 (.t 34) (.t 37), .as 6 (.t 38)] [34, 35, 36, 37, 38])
 (.seq (.s [.mv 39 (.t 6), .mv 40 (.t 1), .bsl 41 9 1 [(.t 40)], .app 42 9 1 16 (.t 39) (.t 41), .as 6 (.t 42)] [39, 40, 41, 42])
 (.seq (.s [.mv 43 (.t 6), .mv 44 (.t 0), .mv 45 (.t 5), .slc 46 1 true false [(.t 44), (.t 45)], .app 47 9 1 16 (.t 43) (.t 46), .as 6 (.t 47)] [43, 44, 45, 46, 47])
 (.seq (.s [.mv 48 (.t 6), .as 4 (.t 48)] [48])
 (.ret [4]))))))))))⟩
theorem comp101 : compile Tryz.prog Tryz.f101 = some code101 := by kernel_rfl
theorem okf101 : okFn Tryz.prog 101 = true := by kernel_rfl
-- 102: corebank/corebankref07.Name
def body102_1 : C :=
 (.seq (.seq (.q [(25, (.op (.bin .lss) [(.sl 3), (.op .slen [(.sl 0)])]))])
 (.cond (.sl 25) .skip (.exit 0 [])))
 (.seq (.blk 1 (.seq (.q [(55, (.ite (.ite (.ite (.op (.bin .lss) [(.op .idx [(.sl 0), (.sl 3)]), (.k (.i .u8 97))]) (.k (.b true)) (.op (.bin .gtr) [(.op .idx [(.sl 0), (.sl 3)]), (.k (.i .u8 122))])) (.ite (.op (.bin .lss) [(.op .idx [(.sl 0), (.sl 3)]), (.k (.i .u8 48))]) (.k (.b true)) (.op (.bin .gtr) [(.op .idx [(.sl 0), (.sl 3)]), (.k (.i .u8 57))])) (.k (.b false))) (.op (.bin .neq) [(.op .idx [(.sl 0), (.sl 3)]), (.k (.i .u8 95))]) (.k (.b false))))])
 (.cond (.sl 55) (.seq (.q [(2, (.k (.b false)))])
 (.ret [2])) .skip)))
 (.q [(3, (.op (.bin .add) [(.sl 3), (.k (.i .i64 1))]))])))
def code102 : FCode := ⟨1, [.tmp 2],
 (.seq (.q [(2, (.k (.b false)))])
 (.seq (.seq (.q [(21, (.ite (.ite (.ite (.op (.bin .lss) [(.op .slen [(.sl 0)]), (.k (.i .i64 1))]) (.k (.b true)) (.op (.bin .gtr) [(.op .slen [(.sl 0)]), (.k (.i .i64 16))])) (.k (.b true)) (.op (.bin .lss) [(.op .idx [(.sl 0), (.k (.i .i64 0))]), (.k (.i .u8 97))])) (.k (.b true)) (.op (.bin .gtr) [(.op .idx [(.sl 0), (.k (.i .i64 0))]), (.k (.i .u8 122))])))])
 (.cond (.sl 21) (.seq (.q [(2, (.k (.b false)))])
 (.ret [2])) .skip))
 (.seq (.seq (.q [(3, (.k (.i .i64 0)))])
 (.blk 0 (.loop [0, 3] body102_1)))
 (.seq (.q [(2, (.k (.b true)))])
 (.ret [2])))))⟩
theorem comp102 : compile Tryz.prog Tryz.f102 = some code102 := by kernel_rfl
theorem okf102 : okFn Tryz.prog 102 = true := by kernel_rfl
-- 103: corebank/corebankref09.Word
def body103_1 : C :=
 (.seq (.seq (.q [(9, (.op (.bin .lss) [(.sl 4), (.op .len [(.sl 3)])]))])
 (.cond (.sl 9) .skip (.exit 0 [])))
 (.seq (.blk 1 (.seq (.q [(17, (.op (.bin .eql) [(.op (.ld 1 false) [(.op (.ix 1) [(.sl 3), (.sl 4)])]), (.sl 0)]))])
 (.cond (.sl 17) (.seq (.q [(2, (.k (.b true)))])
 (.ret [2])) .skip)))
 (.q [(4, (.op (.bin .add) [(.sl 4), (.k (.i .i64 1))]))])))
def code103 : FCode := ⟨1, [.tmp 2],
 (.seq (.q [(2, (.k (.b false)))])
 (.seq (.s [.call (some 5) 105 [], .as 3 (.t 5)] [5])
 (.seq (.seq (.q [(4, (.k (.i .i64 0)))])
 (.blk 0 (.loop [0, 3, 4] body103_1)))
 (.seq (.q [(2, (.k (.b false)))])
 (.ret [2])))))⟩
theorem comp103 : compile Tryz.prog Tryz.f103 = some code103 := by kernel_rfl
theorem okf103 : okFn Tryz.prog 103 = true := by kernel_rfl
-- 104: corebank/corebankref11.result
def code104 : FCode := ⟨2, [.tmp 4, .tmp 5],
 (.seq (.q [(4, (.k (.i .i64 0))), (5, (.k (.b false)))])
 (.seq (.seq (.q [(12, (.ite (.op (.bin .eql) [(.sl 0), (.k (.i .i64 9))]) (.op (.bin .eql) [(.op .len [(.sl 1)]), (.k (.i .i64 1))]) (.k (.b false))))])
 (.cond (.sl 12) (.seq (.q [(4, (.op (.ld 1 false) [(.op (.ix 1) [(.sl 1), (.k (.i .i64 0))])])), (5, (.op (.call true 106) [(.op (.ld 1 false) [(.op (.ix 1) [(.sl 1), (.k (.i .i64 0))])])]))])
 (.ret [4, 5])) .skip))
 (.seq (.seq (.q [(26, (.ite (.op (.bin .eql) [(.sl 0), (.k (.i .i64 16))]) (.op (.bin .eql) [(.op .len [(.sl 1)]), (.k (.i .i64 1))]) (.k (.b false))))])
 (.cond (.sl 26) (.seq (.q [(4, (.k (.i .i64 5))), (5, (.op (.bin .eql) [(.op (.ld 1 false) [(.op (.ix 1) [(.sl 1), (.k (.i .i64 0))])]), (.k (.i .i64 5))]))])
 (.ret [4, 5])) .skip))
 (.seq (.seq (.q [(37, (.ite (.op (.bin .eql) [(.sl 0), (.k (.i .i64 19))]) (.op (.bin .eql) [(.op .len [(.sl 1)]), (.k (.i .i64 3))]) (.k (.b false))))])
 (.cond (.sl 37) (.seq (.q [(4, (.op (.ld 1 false) [(.op (.ix 1) [(.sl 1), (.k (.i .i64 1))])])), (5, (.ite (.op (.bin .eql) [(.op (.ld 1 false) [(.op (.ix 1) [(.sl 1), (.k (.i .i64 0))])]), (.k (.i .i64 5))]) (.op (.bin .eql) [(.op (.ld 1 false) [(.op (.ix 1) [(.sl 1), (.k (.i .i64 1))])]), (.op (.ld 1 false) [(.op (.ix 1) [(.sl 1), (.k (.i .i64 2))])])]) (.k (.b false))))])
 (.ret [4, 5])) .skip))
 (.seq (.seq (.q [(56, (.op (.bin .eql) [(.op .len [(.sl 1)]), (.k (.i .i64 2))]))])
 (.cond (.sl 56) (.seq (.q [(4, (.op (.ext 0) [(.op (.call true 107) [(.sl 0), (.op (.ld 1 false) [(.op (.ix 1) [(.sl 1), (.k (.i .i64 0))])]), (.op (.ld 1 false) [(.op (.ix 1) [(.sl 1), (.k (.i .i64 1))])])])])), (5, (.op (.ext 1) [(.op (.call true 107) [(.sl 0), (.op (.ld 1 false) [(.op (.ix 1) [(.sl 1), (.k (.i .i64 0))])]), (.op (.ld 1 false) [(.op (.ix 1) [(.sl 1), (.k (.i .i64 1))])])])]))])
 (.ret [4, 5])) .skip))
 (.seq (.q [(4, (.k (.i .i64 0))), (5, (.k (.b false)))])
 (.ret [4, 5])))))))⟩
theorem comp104 : compile Tryz.prog Tryz.f104 = some code104 := by kernel_rfl
theorem okf104 : okFn Tryz.prog 104 = true := by kernel_rfl
-- 105: corebank/corebankref09.Words
def code105 : FCode := ⟨0, [.tmp 0],
 (.seq (.s [.as 0 (.c (.ow 9 []))] [])
 (.seq (.s [.bsl 1 9 1 [(.c (.s [112, 114, 111, 100, 117, 99, 116])), (.c (.s [99, 117, 114, 114, 101, 110, 99, 121])), (.c (.s [99, 97, 108, 101, 110, 100, 97, 114])), (.c (.s [102, 114, 111, 109])), (.c (.s [101, 118, 101, 114, 121])), (.c (.s [111, 118, 101, 114, 100, 114, 97, 102, 116])), (.c (.s [116, 97, 120])), (.c (.s [99, 114, 101, 100, 105, 116])), (.c (.s [100, 101, 98, 105, 116])), (.c (.s [109, 97, 114, 103, 105, 110, 97, 108])), (.c (.s [119, 104, 111, 108, 101])), (.c (.s [97, 99, 116, 51, 54, 48])), (.c (.s [97, 99, 116, 51, 54, 53])), (.c (.s [97, 99, 116, 117, 97, 108])), (.c (.s [116, 104, 105, 114, 116, 121])), (.c (.s [100, 111, 119, 110])), (.c (.s [117, 112])), (.c (.s [102, 108, 111, 111, 114])), (.c (.s [99, 101, 105, 108])), (.c (.s [104, 97, 108, 102, 95, 117, 112])), (.c (.s [104, 97, 108, 102, 95, 101, 118, 101, 110])), (.c (.s [107, 101, 101, 112])), (.c (.s [100, 114, 111, 112])), (.c (.s [102, 101, 101])), (.c (.s [108, 105, 109, 105, 116])), (.c (.s [119, 104, 101, 110])), (.c (.s [97, 109, 111, 117, 110, 116, 95, 111, 102])), (.c (.s [115, 105, 110, 103, 108, 101])), (.c (.s [100, 97, 105, 108, 121])), (.c (.s [109, 111, 110, 116, 104, 108, 121])), (.c (.s [109, 111, 110, 116, 104])), (.c (.s [114, 101, 116, 117, 114, 110])), (.c (.s [99, 108, 111, 115, 101])), (.c (.s [101, 118, 101, 110, 116])), (.c (.s [105, 102])), (.c (.s [116, 104, 101, 110])), (.c (.s [101, 108, 115, 101])), (.c (.s [97, 110, 100])), (.c (.s [111, 114])), (.c (.s [110, 111, 116])), (.c (.s [109, 105, 110])), (.c (.s [109, 97, 120]))], .as 0 (.t 1)] [1])
 (.ret [0])))⟩
theorem comp105 : compile Tryz.prog Tryz.f105 = some code105 := by kernel_rfl
theorem okf105 : okFn Tryz.prog 105 = true := by kernel_rfl
-- 106: corebank/corebankref11.scalar
def code106 : FCode := ⟨1, [.tmp 2],
 (.seq (.q [(2, (.k (.b false)))])
 (.seq (.q [(2, (.ite (.ite (.op (.bin .eql) [(.sl 0), (.k (.i .i64 1))]) (.k (.b true)) (.op (.bin .eql) [(.sl 0), (.k (.i .i64 2))])) (.k (.b true)) (.op (.bin .eql) [(.sl 0), (.k (.i .i64 3))])))])
 (.ret [2])))⟩
theorem comp106 : compile Tryz.prog Tryz.f106 = some code106 := by kernel_rfl
theorem okf106 : okFn Tryz.prog 106 = true := by kernel_rfl
-- 107: corebank/corebankref11.two
def code107 : FCode := ⟨3, [.tmp 6, .tmp 7],
 (.seq (.q [(6, (.k (.i .i64 0))), (7, (.k (.b false)))])
 (.seq (.seq (.q [(8, (.sl 0))])
 (.blk 0 (.seq (.q [(9, (.op (.bin .eql) [(.sl 8), (.k (.i .i64 5))]))])
 (.cond (.sl 9) (.seq (.seq (.q [(12, (.op (.bin .eql) [(.sl 1), (.k (.i .i64 4))]))])
 (.cond (.sl 12) (.seq (.q [(6, (.sl 1)), (7, (.op (.bin .eql) [(.sl 2), (.k (.i .i64 1))]))])
 (.ret [6, 7])) .skip))
 (.seq (.q [(6, (.sl 1)), (7, (.ite (.op (.bin .eql) [(.sl 1), (.sl 2)]) (.op (.call false 106) [(.sl 1)]) (.k (.b false))))])
 (.ret [6, 7]))) (.seq (.q [(24, (.op (.bin .eql) [(.sl 8), (.k (.i .i64 6))]))])
 (.cond (.sl 24) (.seq (.seq (.q [(31, (.ite (.op (.bin .eql) [(.sl 1), (.k (.i .i64 4))]) (.op (.bin .eql) [(.sl 2), (.k (.i .i64 4))]) (.k (.b false))))])
 (.cond (.sl 31) (.seq (.q [(6, (.k (.i .i64 1))), (7, (.k (.b true)))])
 (.ret [6, 7])) .skip))
 (.seq (.seq (.q [(33, (.op (.bin .eql) [(.sl 1), (.k (.i .i64 4))]))])
 (.cond (.sl 33) (.seq (.q [(6, (.sl 1)), (7, (.op (.bin .eql) [(.sl 2), (.k (.i .i64 1))]))])
 (.ret [6, 7])) .skip))
 (.seq (.q [(6, (.sl 1)), (7, (.ite (.op (.bin .eql) [(.sl 1), (.sl 2)]) (.op (.call false 106) [(.sl 1)]) (.k (.b false))))])
 (.ret [6, 7])))) (.seq (.q [(45, (.op (.bin .eql) [(.sl 8), (.k (.i .i64 7))]))])
 (.cond (.sl 45) (.seq (.q [(6, (.op (.ext 0) [(.op (.call false 108) [(.sl 1), (.sl 2)])])), (7, (.op (.ext 1) [(.op (.call false 108) [(.sl 1), (.sl 2)])]))])
 (.ret [6, 7])) (.seq (.q [(52, (.op (.bin .eql) [(.sl 8), (.k (.i .i64 8))]))])
 (.cond (.sl 52) (.seq (.seq (.q [(59, (.ite (.op (.bin .eql) [(.sl 1), (.k (.i .i64 2))]) (.op (.bin .eql) [(.sl 2), (.k (.i .i64 2))]) (.k (.b false))))])
 (.cond (.sl 59) (.seq (.q [(6, (.k (.i .i64 1))), (7, (.k (.b true)))])
 (.ret [6, 7])) .skip))
 (.seq (.q [(6, (.sl 1)), (7, (.ite (.op (.call false 106) [(.sl 1)]) (.op (.bin .eql) [(.sl 2), (.k (.i .i64 1))]) (.k (.b false))))])
 (.ret [6, 7]))) (.seq (.seq (.q [(67, (.op (.bin .eql) [(.sl 8), (.k (.i .i64 10))]))])
 (.cond (.sl 67) .skip (.q [(67, (.op (.bin .eql) [(.sl 8), (.k (.i .i64 11))]))])))
 (.cond (.sl 67) (.seq (.q [(6, (.k (.i .i64 5))), (7, (.op (.bin .eql) [(.sl 1), (.sl 2)]))])
 (.ret [6, 7])) (.seq (.seq (.q [(73, (.op (.bin .eql) [(.sl 8), (.k (.i .i64 12))]))])
 (.cond (.sl 73) .skip (.q [(73, (.op (.bin .eql) [(.sl 8), (.k (.i .i64 13))]))])))
 (.cond (.sl 73) (.seq (.q [(6, (.k (.i .i64 5))), (7, (.ite (.op (.bin .eql) [(.sl 1), (.sl 2)]) (.op (.bin .neq) [(.sl 1), (.k (.i .i64 5))]) (.k (.b false))))])
 (.ret [6, 7])) (.seq (.seq (.q [(83, (.op (.bin .eql) [(.sl 8), (.k (.i .i64 14))]))])
 (.cond (.sl 83) .skip (.q [(83, (.op (.bin .eql) [(.sl 8), (.k (.i .i64 15))]))])))
 (.cond (.sl 83) (.seq (.q [(6, (.k (.i .i64 5))), (7, (.ite (.op (.bin .eql) [(.sl 1), (.k (.i .i64 5))]) (.op (.bin .eql) [(.sl 2), (.k (.i .i64 5))]) (.k (.b false))))])
 (.ret [6, 7])) (.seq (.seq (.q [(92, (.op (.bin .eql) [(.sl 8), (.k (.i .i64 17))]))])
 (.cond (.sl 92) .skip (.q [(92, (.op (.bin .eql) [(.sl 8), (.k (.i .i64 18))]))])))
 (.cond (.sl 92) (.seq (.q [(6, (.sl 1)), (7, (.ite (.op (.bin .eql) [(.sl 1), (.sl 2)]) (.op (.bin .neq) [(.sl 1), (.k (.i .i64 5))]) (.k (.b false))))])
 (.ret [6, 7])) .skip))))))))))))))))))
 (.seq (.q [(6, (.k (.i .i64 0))), (7, (.k (.b false)))])
 (.ret [6, 7]))))⟩
theorem comp107 : compile Tryz.prog Tryz.f107 = some code107 := by kernel_rfl
theorem okf107 : okFn Tryz.prog 107 = true := by kernel_rfl
-- 108: corebank/corebankref11.product
def code108 : FCode := ⟨2, [.tmp 4, .tmp 5],
 (.seq (.q [(4, (.k (.i .i64 0))), (5, (.k (.b false)))])
 (.seq (.seq (.q [(13, (.ite (.op (.un .not) [(.op (.call false 106) [(.sl 0)])]) (.k (.b true)) (.op (.un .not) [(.op (.call false 106) [(.sl 1)])])))])
 (.cond (.sl 13) (.seq (.q [(4, (.k (.i .i64 0))), (5, (.k (.b false)))])
 (.ret [4, 5])) .skip))
 (.seq (.seq (.q [(15, (.op (.bin .eql) [(.sl 0), (.k (.i .i64 1))]))])
 (.cond (.sl 15) (.seq (.q [(4, (.sl 1)), (5, (.k (.b true)))])
 (.ret [4, 5])) .skip))
 (.seq (.seq (.q [(18, (.op (.bin .eql) [(.sl 1), (.k (.i .i64 1))]))])
 (.cond (.sl 18) (.seq (.q [(4, (.sl 0)), (5, (.k (.b true)))])
 (.ret [4, 5])) .skip))
 (.seq (.q [(4, (.k (.i .i64 2))), (5, (.op (.bin .neq) [(.sl 0), (.sl 1)]))])
 (.ret [4, 5]))))))⟩
theorem comp108 : compile Tryz.prog Tryz.f108 = some code108 := by kernel_rfl
theorem okf108 : okFn Tryz.prog 108 = true := by kernel_rfl
/-- All of them. -/
def codes : List (Nat × FCode) := [(3, code3), (4, code4), (5, code5), (7, code7), (8, code8), (9, code9), (10, code10), (11, code11), (12, code12), (13, code13), (14, code14), (15, code15), (16, code16), (17, code17), (18, code18), (19, code19), (20, code20), (21, code21), (22, code22), (23, code23), (24, code24), (25, code25), (26, code26), (27, code27), (28, code28), (29, code29), (30, code30), (31, code31), (32, code32), (33, code33), (34, code34), (35, code35), (36, code36), (37, code37), (38, code38), (39, code39), (40, code40), (41, code41), (42, code42), (43, code43), (44, code44), (45, code45), (46, code46), (47, code47), (48, code48), (49, code49), (50, code50), (51, code51), (52, code52), (53, code53), (54, code54), (55, code55), (56, code56), (57, code57), (58, code58), (59, code59), (60, code60), (61, code61), (62, code62), (63, code63), (64, code64), (65, code65), (66, code66), (67, code67), (68, code68), (69, code69), (70, code70), (71, code71), (72, code72), (73, code73), (74, code74), (75, code75), (76, code76), (77, code77), (78, code78), (79, code79), (80, code80), (81, code81), (82, code82), (83, code83), (84, code84), (85, code85), (86, code86), (87, code87), (88, code88), (89, code89), (90, code90), (91, code91), (93, code93), (94, code94), (95, code95), (96, code96), (97, code97), (98, code98), (99, code99), (100, code100), (101, code101), (102, code102), (103, code103), (104, code104), (105, code105), (106, code106), (107, code107), (108, code108)]
def tab : Nat → Option FCode := tabOf codes
theorem codes_ok : ∀ p ∈ codes, ∃ fn, Tryz.prog.funcs[p.1]? = some fn ∧ compile Tryz.prog fn = some p.2 ∧ okFn Tryz.prog p.1 = true := by
  unfold codes
  simp only [List.forall_mem_cons]
  exact ⟨⟨_, Tryz.func3, comp3, okf3⟩, ⟨_, Tryz.func4, comp4, okf4⟩, ⟨_, Tryz.func5, comp5, okf5⟩, ⟨_, Tryz.func7, comp7, okf7⟩, ⟨_, Tryz.func8, comp8, okf8⟩, ⟨_, Tryz.func9, comp9, okf9⟩, ⟨_, Tryz.func10, comp10, okf10⟩, ⟨_, Tryz.func11, comp11, okf11⟩, ⟨_, Tryz.func12, comp12, okf12⟩, ⟨_, Tryz.func13, comp13, okf13⟩, ⟨_, Tryz.func14, comp14, okf14⟩, ⟨_, Tryz.func15, comp15, okf15⟩, ⟨_, Tryz.func16, comp16, okf16⟩, ⟨_, Tryz.func17, comp17, okf17⟩, ⟨_, Tryz.func18, comp18, okf18⟩, ⟨_, Tryz.func19, comp19, okf19⟩, ⟨_, Tryz.func20, comp20, okf20⟩, ⟨_, Tryz.func21, comp21, okf21⟩, ⟨_, Tryz.func22, comp22, okf22⟩, ⟨_, Tryz.func23, comp23, okf23⟩, ⟨_, Tryz.func24, comp24, okf24⟩, ⟨_, Tryz.func25, comp25, okf25⟩, ⟨_, Tryz.func26, comp26, okf26⟩, ⟨_, Tryz.func27, comp27, okf27⟩, ⟨_, Tryz.func28, comp28, okf28⟩, ⟨_, Tryz.func29, comp29, okf29⟩, ⟨_, Tryz.func30, comp30, okf30⟩, ⟨_, Tryz.func31, comp31, okf31⟩, ⟨_, Tryz.func32, comp32, okf32⟩, ⟨_, Tryz.func33, comp33, okf33⟩, ⟨_, Tryz.func34, comp34, okf34⟩, ⟨_, Tryz.func35, comp35, okf35⟩, ⟨_, Tryz.func36, comp36, okf36⟩, ⟨_, Tryz.func37, comp37, okf37⟩, ⟨_, Tryz.func38, comp38, okf38⟩, ⟨_, Tryz.func39, comp39, okf39⟩, ⟨_, Tryz.func40, comp40, okf40⟩, ⟨_, Tryz.func41, comp41, okf41⟩, ⟨_, Tryz.func42, comp42, okf42⟩, ⟨_, Tryz.func43, comp43, okf43⟩, ⟨_, Tryz.func44, comp44, okf44⟩, ⟨_, Tryz.func45, comp45, okf45⟩, ⟨_, Tryz.func46, comp46, okf46⟩, ⟨_, Tryz.func47, comp47, okf47⟩, ⟨_, Tryz.func48, comp48, okf48⟩, ⟨_, Tryz.func49, comp49, okf49⟩, ⟨_, Tryz.func50, comp50, okf50⟩, ⟨_, Tryz.func51, comp51, okf51⟩, ⟨_, Tryz.func52, comp52, okf52⟩, ⟨_, Tryz.func53, comp53, okf53⟩, ⟨_, Tryz.func54, comp54, okf54⟩, ⟨_, Tryz.func55, comp55, okf55⟩, ⟨_, Tryz.func56, comp56, okf56⟩, ⟨_, Tryz.func57, comp57, okf57⟩, ⟨_, Tryz.func58, comp58, okf58⟩, ⟨_, Tryz.func59, comp59, okf59⟩, ⟨_, Tryz.func60, comp60, okf60⟩, ⟨_, Tryz.func61, comp61, okf61⟩, ⟨_, Tryz.func62, comp62, okf62⟩, ⟨_, Tryz.func63, comp63, okf63⟩, ⟨_, Tryz.func64, comp64, okf64⟩, ⟨_, Tryz.func65, comp65, okf65⟩, ⟨_, Tryz.func66, comp66, okf66⟩, ⟨_, Tryz.func67, comp67, okf67⟩, ⟨_, Tryz.func68, comp68, okf68⟩, ⟨_, Tryz.func69, comp69, okf69⟩, ⟨_, Tryz.func70, comp70, okf70⟩, ⟨_, Tryz.func71, comp71, okf71⟩, ⟨_, Tryz.func72, comp72, okf72⟩, ⟨_, Tryz.func73, comp73, okf73⟩, ⟨_, Tryz.func74, comp74, okf74⟩, ⟨_, Tryz.func75, comp75, okf75⟩, ⟨_, Tryz.func76, comp76, okf76⟩, ⟨_, Tryz.func77, comp77, okf77⟩, ⟨_, Tryz.func78, comp78, okf78⟩, ⟨_, Tryz.func79, comp79, okf79⟩, ⟨_, Tryz.func80, comp80, okf80⟩, ⟨_, Tryz.func81, comp81, okf81⟩, ⟨_, Tryz.func82, comp82, okf82⟩, ⟨_, Tryz.func83, comp83, okf83⟩, ⟨_, Tryz.func84, comp84, okf84⟩, ⟨_, Tryz.func85, comp85, okf85⟩, ⟨_, Tryz.func86, comp86, okf86⟩, ⟨_, Tryz.func87, comp87, okf87⟩, ⟨_, Tryz.func88, comp88, okf88⟩, ⟨_, Tryz.func89, comp89, okf89⟩, ⟨_, Tryz.func90, comp90, okf90⟩, ⟨_, Tryz.func91, comp91, okf91⟩, ⟨_, Tryz.func93, comp93, okf93⟩, ⟨_, Tryz.func94, comp94, okf94⟩, ⟨_, Tryz.func95, comp95, okf95⟩, ⟨_, Tryz.func96, comp96, okf96⟩, ⟨_, Tryz.func97, comp97, okf97⟩, ⟨_, Tryz.func98, comp98, okf98⟩, ⟨_, Tryz.func99, comp99, okf99⟩, ⟨_, Tryz.func100, comp100, okf100⟩, ⟨_, Tryz.func101, comp101, okf101⟩, ⟨_, Tryz.func102, comp102, okf102⟩, ⟨_, Tryz.func103, comp103, okf103⟩, ⟨_, Tryz.func104, comp104, okf104⟩, ⟨_, Tryz.func105, comp105, okf105⟩, ⟨_, Tryz.func106, comp106, okf106⟩, ⟨_, Tryz.func107, comp107, okf107⟩, ⟨_, Tryz.func108, comp108, okf108⟩, fun _ h => by cases h⟩
end Go.Proofs.YtmhbkofbbkogeaaGreat
