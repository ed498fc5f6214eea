/-
  The code of the functions that the laws reach, as the evaluator runs it: printed by a program of ours off the translation, and held against it by the kernel.
-/
import Derived.Test.YtdaclkakglmfeaaOrd
import Derived.Test.YtdaclkakglmfeaaVmO
namespace Go.Proofs.Ytdaclkakglmfeaa
open Go.VM

-- 2: gosem.cut.init
def code2 : FCode := ⟨0, [],
 (.s [.call (some 0) 1 []] [0])⟩
theorem comp2 : compile Try.prog Try.f2 = some code2 := by kernel_rfl
theorem okf2 : okFn Try.prog 2 = true := by kernel_rfl
-- 3: corebank/corebanklaw18.ChartChecks
def code3 : FCode := ⟨2, [.tmp 4],
 (.seq (.s [.box 3 (.t 1), .as 4 (.c (.b false))] [])
 (.seq (.seq (.q [(7, (.op (.bin .gtr) [(.op .len [(.sl 0)]), (.k (.i .i64 100))]))])
 (.cond (.sl 7) (.seq (.q [(4, (.op (.call false 9) []))])
 (.ret [4])) .skip))
 (.seq (.q [(4, (.ite (.op (.bin .eql) [(.op (.call true 10) [(.sl 0), (.op (.ld 14 true) [(.sl 3)])]), (.op (.call true 11) [(.sl 0), (.op (.ld 14 true) [(.sl 3)])])]) (.op (.call true 9) []) (.k (.b false))))])
 (.ret [4]))))⟩
theorem comp3 : compile Try.prog Try.f3 = some code3 := by kernel_rfl
theorem okf3 : okFn Try.prog 3 = true := by kernel_rfl
-- 4: corebank/corebanklaw18.ChartPaths
def code4 : FCode := ⟨3, [.tmp 6],
 (.seq (.q [(6, (.k (.b false)))])
 (.seq (.seq (.q [(13, (.op (.bin .gtr) [(.op .len [(.sl 0)]), (.k (.i .i64 100))]))])
 (.cond (.sl 13) (.seq (.q [(6, (.op (.call false 9) []))])
 (.ret [6])) .skip))
 (.seq (.s [.mv 16 (.t 0), .mv 17 (.t 1), .call (some 18) 12 [(.t 16), (.t 17)], .mv 15 (.t 18), .ext 19 0 15, .ext 20 1 15, .alo 7 [(.i .i64 0), (.i .i64 0), (.i .i64 0), (.s [])], .sto 4 (.t 7) (.t 19), .as 8 (.t 20)] [16, 17, 18, 15, 19, 20])
 (.seq (.s [.mv 22 (.t 0), .mv 23 (.t 1), .call (some 24) 13 [(.t 22), (.t 23)], .mv 21 (.t 24), .ext 25 0 21, .ext 26 1 21, .alo 9 [(.i .i64 0), (.i .i64 0), (.i .i64 0), (.s [])], .sto 4 (.t 9) (.t 25), .as 10 (.t 26)] [22, 23, 24, 21, 25, 26])
 (.seq (.q [(6, (.ite (.ite (.ite (.ite (.op (.eqa false [1, 1, 1, 2]) [(.op (.ld 4 true) [(.sl 7)]), (.op (.ld 4 true) [(.sl 9)])]) (.op (.binb .eql) [(.sl 8), (.sl 10)]) (.k (.b false))) (.op (.call false 14) [(.op (.call false 15) [(.sl 0), (.sl 1)]), (.op (.call false 16) [(.sl 0), (.sl 1)])]) (.k (.b false))) (.op (.binb .eql) [(.op (.call false 17) [(.sl 0), (.sl 1), (.sl 2)]), (.op (.call false 18) [(.sl 0), (.sl 1), (.sl 2)])]) (.k (.b false))) (.op (.call false 9) []) (.k (.b false))))])
 (.ret [6]))))))⟩
theorem comp4 : compile Try.prog Try.f4 = some code4 := by kernel_rfl
theorem okf4 : okFn Try.prog 4 = true := by kernel_rfl
-- 5: corebank/corebanklaw18.ChartLeaves
def code5 : FCode := ⟨2, [.tmp 4],
 (.seq (.q [(4, (.k (.b false)))])
 (.seq (.seq (.q [(7, (.op (.bin .gtr) [(.op .len [(.sl 0)]), (.k (.i .i64 100))]))])
 (.cond (.sl 7) (.seq (.q [(4, (.op (.call false 9) []))])
 (.ret [4])) .skip))
 (.seq (.q [(4, (.ite (.ite (.op (.call false 14) [(.op (.call false 19) [(.sl 0), (.sl 1)]), (.op (.call false 20) [(.sl 0), (.sl 1)])]) (.op (.call false 14) [(.op (.call false 21) [(.sl 0)]), (.op (.call false 22) [(.sl 0)])]) (.k (.b false))) (.op (.call false 9) []) (.k (.b false))))])
 (.ret [4]))))⟩
theorem comp5 : compile Try.prog Try.f5 = some code5 := by kernel_rfl
theorem okf5 : okFn Try.prog 5 = true := by kernel_rfl
-- 6: corebank/corebanklaw18.ChartSigns
def code6 : FCode := ⟨1, [.tmp 2],
 (.seq (.q [(2, (.k (.b false)))])
 (.seq (.q [(2, (.ite (.op (.bin .eql) [(.op (.call false 23) [(.sl 0)]), (.op (.call false 24) [(.sl 0)])]) (.op (.call false 9) []) (.k (.b false))))])
 (.ret [2])))⟩
theorem comp6 : compile Try.prog Try.f6 = some code6 := by kernel_rfl
theorem okf6 : okFn Try.prog 6 = true := by kernel_rfl
-- 7: corebank/corebanklaw18.ChartPartition
def body7_1 : C :=
 (.seq (.seq (.q [(64, (.op (.bin .lss) [(.sl 10), (.op .len [(.sl 9)])]))])
 (.cond (.sl 64) .skip (.exit 4 [0, 5, 6, 7, 8])))
 (.seq (.blk 5 (.seq (.q [(76, (.op (.bin .eql) [(.op (.ld 1 false) [(.op (.ix 1) [(.sl 9), (.sl 10)])]), (.op (.ld 1 false) [(.op (.fa 0 1) [(.op (.ix 4) [(.sl 0), (.sl 5)])])])]))])
 (.cond (.sl 76) (.q [(6, (.op (.bin .add) [(.sl 6), (.k (.i .i64 1))]))]) .skip)))
 (.q [(10, (.op (.bin .add) [(.sl 10), (.k (.i .i64 1))]))])))
def body7_2 : C :=
 (.seq (.seq (.q [(31, (.op (.bin .lss) [(.sl 8), (.op .len [(.sl 0)])]))])
 (.cond (.sl 31) .skip (.exit 2 [0, 5, 6, 7])))
 (.seq (.blk 3 (.seq (.q [(7, (.ite (.sl 7) (.op (.bin .neq) [(.op (.ld 1 false) [(.op (.fa 1 1) [(.op (.ix 4) [(.sl 0), (.sl 8)])])]), (.op (.ld 1 false) [(.op (.fa 0 1) [(.op (.ix 4) [(.sl 0), (.sl 5)])])])]) (.k (.b false))))])
 (.seq (.seq (.q [(53, (.op (.bin .neq) [(.op (.ld 1 false) [(.op (.fa 1 1) [(.op (.ix 4) [(.sl 0), (.sl 8)])])]), (.k (.i .i64 0))]))])
 (.cond (.sl 53) (.exit 3 [0, 5, 6, 7, 8]) .skip))
 (.seq (.s [.mv 54 (.t 0), .mv 55 (.t 0), .mv 56 (.t 8), .ix 57 4 (.t 55) (.t 56), .fa 58 0 1 (.t 57), .q 59 (.ld 1 false) [(.t 58)], .call (some 60) 19 [(.t 54), (.t 59)], .as 9 (.t 60)] [54, 55, 56, 57, 58, 59, 60])
 (.seq (.q [(10, (.k (.i .i64 0)))])
 (.blk 4 (.loop [0, 5, 6, 7, 8, 9, 10] body7_1)))))))
 (.q [(8, (.op (.bin .add) [(.sl 8), (.k (.i .i64 1))]))])))
def body7_3 : C :=
 (.seq (.seq (.q [(25, (.op (.bin .lss) [(.sl 5), (.op .len [(.sl 0)])]))])
 (.cond (.sl 25) .skip (.exit 0 [])))
 (.seq (.blk 1 (.seq (.q [(6, (.k (.i .i64 0))), (7, (.k (.b true)))])
 (.seq (.seq (.q [(8, (.k (.i .i64 0)))])
 (.blk 2 (.loop [0, 5, 6, 7, 8] body7_2)))
 (.seq (.q [(91, (.ite (.ite (.sl 7) (.op (.bin .neq) [(.sl 6), (.k (.i .i64 1))]) (.k (.b false))) (.k (.b true)) (.ite (.op (.un .not) [(.sl 7)]) (.op (.bin .neq) [(.sl 6), (.k (.i .i64 0))]) (.k (.b false)))))])
 (.cond (.sl 91) (.seq (.q [(4, (.k (.b false)))])
 (.ret [4])) .skip)))))
 (.q [(5, (.op (.bin .add) [(.sl 5), (.k (.i .i64 1))]))])))
def code7 : FCode := ⟨2, [.tmp 4],
 (.seq (.s [.box 3 (.t 1), .as 4 (.c (.b false))] [])
 (.seq (.seq (.q [(20, (.ite (.op (.bin .neq) [(.op (.call false 10) [(.sl 0), (.op (.ld 14 true) [(.sl 3)])]), (.k (.i .i64 0))]) (.k (.b true)) (.op (.bin .neq) [(.op (.call false 11) [(.sl 0), (.op (.ld 14 true) [(.sl 3)])]), (.k (.i .i64 0))])))])
 (.cond (.sl 20) (.seq (.q [(4, (.op (.call false 9) []))])
 (.ret [4])) .skip))
 (.seq (.seq (.q [(5, (.k (.i .i64 0)))])
 (.blk 0 (.loop [0, 5] body7_3)))
 (.seq (.q [(4, (.op (.call false 9) []))])
 (.ret [4])))))⟩
theorem comp7 : compile Try.prog Try.f7 = some code7 := by kernel_rfl
theorem okf7 : okFn Try.prog 7 = true := by kernel_rfl
-- 9: corebank/corebanklaw18.lives
def code9 : FCode := ⟨0, [.tmp 0],
 (.seq (.q [(0, (.k (.b false)))])
 (.seq (.s [.bld 4 [(.i .i64 0), (.i .i64 0), (.i .i64 0), (.s [])] [(0, 1)] [(.c (.i .i64 1))], .bld 5 [(.i .i64 0), (.i .i64 0), (.i .i64 0), (.s [])] [(0, 1), (1, 1)] [(.c (.i .i64 2)), (.c (.i .i64 1))], .bld 6 [(.i .i64 0), (.i .i64 0), (.i .i64 0), (.s [])] [(0, 1), (1, 1)] [(.c (.i .i64 3)), (.c (.i .i64 1))], .bld 7 [(.i .i64 0), (.i .i64 0), (.i .i64 0), (.s [])] [(0, 1)] [(.c (.i .i64 4))], .bld 8 [(.i .i64 0), (.i .i64 0), (.i .i64 0), (.s [])] [(0, 1), (1, 1)] [(.c (.i .i64 5)), (.c (.i .i64 2))], .bsl 9 30 4 [(.t 4), (.t 5), (.t 6), (.t 7), (.t 8)], .as 1 (.t 9)] [4, 5, 6, 7, 8, 9])
 (.seq (.s [.mv 11 (.t 1), .call (some 12) 12 [(.t 11), (.c (.i .i64 5))], .mv 10 (.t 12), .ext 13 0 10, .ext 14 1 10, .alo 2 [(.i .i64 0), (.i .i64 0), (.i .i64 0), (.s [])], .sto 4 (.t 2) (.t 13), .as 3 (.t 14)] [11, 12, 10, 13, 14])
 (.seq (.q [(0, (.ite (.ite (.ite (.ite (.ite (.ite (.ite (.ite (.ite (.ite (.op (.call false 14) [(.op (.call false 15) [(.sl 1), (.k (.i .i64 5))]), (.op (.bsl 1) [(.k (.i .i64 1)), (.k (.i .i64 2)), (.k (.i .i64 5))])]) (.op (.call false 14) [(.op (.call false 19) [(.sl 1), (.k (.i .i64 1))]), (.op (.bsl 1) [(.k (.i .i64 3)), (.k (.i .i64 5))])]) (.k (.b false))) (.op (.call false 14) [(.op (.call false 19) [(.sl 1), (.k (.i .i64 4))]), (.op (.bsl 1) [(.k (.i .i64 4))])]) (.k (.b false))) (.op (.call false 14) [(.op (.call false 21) [(.sl 1)]), (.op (.bsl 1) [(.k (.i .i64 1)), (.k (.i .i64 2)), (.k (.i .i64 5)), (.k (.i .i64 3)), (.k (.i .i64 4))])]) (.k (.b false))) (.op (.call false 17) [(.sl 1), (.k (.i .i64 5)), (.k (.i .i64 2))]) (.k (.b false))) (.op (.un .not) [(.op (.call false 17) [(.sl 1), (.k (.i .i64 5)), (.k (.i .i64 3))])]) (.k (.b false))) (.op (.bin .eql) [(.op (.ld 1 false) [(.op (.fa 1 1) [(.sl 2)])]), (.k (.i .i64 2))]) (.k (.b false))) (.sl 3) (.k (.b false))) (.op (.bin .eql) [(.op (.call false 23) [(.k (.i .i64 1))]), (.k (.i .i64 1))]) (.k (.b false))) (.op (.bin .eql) [(.op (.call false 23) [(.k (.i .i64 4))]), (.k (.i .i64 (-1)))]) (.k (.b false))) (.op (.bin .eql) [(.op (.call false 10) [(.k (.l [])), (.op (.bld [(.i .i64 0), (.i .i64 0), (.i .i64 0), (.i .i64 0), (.i .i64 0), (.i .i64 0), (.i .i64 0), (.i .i64 0), (.i .i64 0), (.i .i64 0), (.i .i64 0), (.i .i64 0), (.i .i64 0), (.i .i64 0)] []) [])]), (.k (.i .i64 5))]) (.k (.b false))))])
 (.ret [0])))))⟩
theorem comp9 : compile Try.prog Try.f9 = some code9 := by kernel_rfl
theorem okf9 : okFn Try.prog 9 = true := by kernel_rfl
-- 10: corebank/chart.Check
def body10_1 : C :=
 (.seq (.q [(22, (.op (.bin .lss) [(.sl 21), (.sl 20)]))])
 (.seq (.cond (.sl 22) .skip (.exit 0 [0, 3]))
 (.seq (.blk 1 (.seq (.q [(5, (.sl 21))])
 (.seq (.q [(6, (.op (.call false 25) [(.sl 0), (.sl 5)]))])
 (.seq (.q [(28, (.op (.bin .neq) [(.sl 6), (.k (.i .i64 0))]))])
 (.cond (.sl 28) (.seq (.q [(4, (.sl 6))])
 (.ret [4])) .skip)))))
 (.q [(21, (.op (.bin .add) [(.sl 21), (.k (.i .i64 1))]))]))))
def body10_2 : C :=
 (.seq (.q [(35, (.op (.bin .lss) [(.sl 34), (.sl 33)]))])
 (.seq (.cond (.sl 35) .skip (.exit 2 []))
 (.seq (.blk 3 (.seq (.s [.ix 36 2 (.t 32) (.t 34), .q 37 (.ld 2 true) [(.t 36)], .alo 8 [(.i .i64 0), (.i .i64 0)], .sto 2 (.t 8) (.t 37)] [36, 37])
 (.seq (.s [.mv 39 (.t 0), .fa 40 0 1 (.t 8), .q 41 (.ld 1 false) [(.t 40)], .call (some 42) 12 [(.t 39), (.t 41)], .mv 38 (.t 42), .ext 43 0 38, .ext 44 1 38, .alo 9 [(.i .i64 0), (.i .i64 0), (.i .i64 0), (.s [])], .sto 4 (.t 9) (.t 43), .as 10 (.t 44)] [39, 40, 41, 42, 38, 43, 44])
 (.blk 4 (.seq (.q [(45, (.ite (.op (.un .not) [(.sl 10)]) (.k (.b true)) (.op (.call false 27) [(.sl 0), (.op (.ld 1 false) [(.op (.fa 0 1) [(.sl 8)])])])))])
 (.cond (.sl 45) (.seq (.q [(4, (.k (.i .i64 11)))])
 (.ret [4])) (.seq (.q [(54, (.op (.bin .neq) [(.op (.ld 1 false) [(.op (.fa 2 1) [(.sl 9)])]), (.op (.ld 1 false) [(.op (.fa 1 1) [(.sl 8)])])]))])
 (.cond (.sl 54) (.seq (.q [(4, (.k (.i .i64 3)))])
 (.ret [4])) .skip))))))))
 (.q [(34, (.op (.bin .add) [(.sl 34), (.k (.i .i64 1))]))]))))
def code10 : FCode := ⟨2, [.tmp 4],
 (.seq (.s [.box 3 (.t 1), .as 4 (.c (.i .i64 0))] [])
 (.seq (.seq (.q [(18, (.ite (.op (.bin .lss) [(.op .len [(.sl 0)]), (.k (.i .i64 1))]) (.k (.b true)) (.op (.bin .gtr) [(.op .len [(.sl 0)]), (.k (.i .i64 40))])))])
 (.cond (.sl 18) (.seq (.q [(4, (.k (.i .i64 5)))])
 (.ret [4])) .skip))
 (.seq (.seq (.q [(20, (.op .len [(.sl 0)])), (21, (.k (.i .i64 0)))])
 (.blk 0 (.loop [0, 3, 20, 21] body10_1)))
 (.seq (.seq (.s [.q 31 (.ld 14 true) [(.t 3)], .call (some 32) 26 [(.t 31)], .q 33 .len [(.t 32)], .mv 34 (.c (.i .i64 0))] [31])
 (.blk 2 (.loop [0, 32, 33, 34] body10_2)))
 (.seq (.q [(4, (.k (.i .i64 0)))])
 (.ret [4]))))))⟩
theorem comp10 : compile Try.prog Try.f10 = some code10 := by kernel_rfl
theorem okf10 : okFn Try.prog 10 = true := by kernel_rfl
-- 11: corebank/corebankref18.Check
def body11_1 : C :=
 (.seq (.seq (.q [(24, (.op (.bin .lss) [(.sl 5), (.op .len [(.sl 0)])]))])
 (.cond (.sl 24) .skip (.exit 0 [0, 3])))
 (.seq (.blk 1 (.seq (.s [.mv 27 (.t 0), .mv 28 (.t 5), .ix 29 4 (.t 27) (.t 28), .q 30 (.ld 4 true) [(.t 29)], .alo 6 [(.i .i64 0), (.i .i64 0), (.i .i64 0), (.s [])], .sto 4 (.t 6) (.t 30)] [27, 28, 29, 30])
 (.seq (.seq (.q [(48, (.ite (.ite (.ite (.op (.bin .lss) [(.op (.ld 1 false) [(.op (.fa 0 1) [(.sl 6)])]), (.k (.i .i64 1))]) (.k (.b true)) (.op (.bin .gtr) [(.op (.ld 1 false) [(.op (.fa 0 1) [(.sl 6)])]), (.k (.i .i64 999))])) (.k (.b true)) (.op (.bin .lss) [(.op (.ld 1 false) [(.op (.fa 2 1) [(.sl 6)])]), (.k (.i .i64 1))])) (.k (.b true)) (.op (.bin .gtr) [(.op (.ld 1 false) [(.op (.fa 2 1) [(.sl 6)])]), (.k (.i .i64 5))])))])
 (.cond (.sl 48) (.seq (.q [(4, (.k (.i .i64 1)))])
 (.ret [4])) .skip))
 (.seq (.seq (.q [(61, (.ite (.op (.bin .gtr) [(.sl 5), (.k (.i .i64 0))]) (.op (.bin .leq) [(.op (.ld 1 false) [(.op (.fa 0 1) [(.sl 6)])]), (.op (.ld 1 false) [(.op (.fa 0 1) [(.op (.ix 4) [(.sl 0), (.op (.bin .sub) [(.sl 5), (.k (.i .i64 1))])])])])]) (.k (.b false))))])
 (.cond (.sl 61) (.seq (.q [(4, (.k (.i .i64 10)))])
 (.ret [4])) .skip))
 (.seq (.seq (.q [(65, (.op (.un .not) [(.op (.call false 28) [(.op (.ld 1 false) [(.op (.fa 3 1) [(.sl 6)])])])]))])
 (.cond (.sl 65) (.seq (.q [(4, (.k (.i .i64 4)))])
 (.ret [4])) .skip))
 (.seq (.seq (.q [(68, (.op (.bin .eql) [(.op (.ld 1 false) [(.op (.fa 1 1) [(.sl 6)])]), (.k (.i .i64 0))]))])
 (.cond (.sl 68) (.exit 1 [0, 3, 5]) .skip))
 (.seq (.d [.mv 70 (.t 0), .mv 71 (.t 5), .slc 72 4 false true [(.t 70), (.t 71)], .fa 73 1 1 (.t 6), .q 74 (.ld 1 false) [(.t 73)], .call (some 75) 13 [(.t 72), (.t 74)], .mv 69 (.t 75), .ext 76 0 69, .ext 77 1 69, .alo 7 [(.i .i64 0), (.i .i64 0), (.i .i64 0), (.s [])], .sto 4 (.t 7) (.t 76), .as 8 (.t 77)] [[], [], [0, 1], [], [3], [2, 4], [5], [6], [6], [], [9, 7, 5, 0, 1, 2, 3, 4, 5, 6, 7, 9], [8, 10, 0, 1, 2, 3, 4, 5, 6, 7, 8, 9, 10]] [70, 71, 72, 73, 74, 75, 69, 76, 77])
 (.seq (.seq (.q [(79, (.op (.un .not) [(.sl 8)]))])
 (.cond (.sl 79) (.seq (.q [(4, (.k (.i .i64 11)))])
 (.ret [4])) .skip))
 (.seq (.q [(84, (.op (.bin .neq) [(.op (.ld 1 false) [(.op (.fa 2 1) [(.sl 7)])]), (.op (.ld 1 false) [(.op (.fa 2 1) [(.sl 6)])])]))])
 (.cond (.sl 84) (.seq (.q [(4, (.k (.i .i64 3)))])
 (.ret [4])) .skip))))))))))
 (.q [(5, (.op (.bin .add) [(.sl 5), (.k (.i .i64 1))]))])))
def body11_2 : C :=
 (.seq (.seq (.q [(118, (.op (.bin .lss) [(.sl 11), (.op .len [(.sl 9)])]))])
 (.cond (.sl 118) .skip (.exit 2 [])))
 (.seq (.blk 3 (.seq (.q [(12, (.op (.call true 29) [(.sl 0), (.op (.ld 1 false) [(.op (.ix 1) [(.sl 9), (.sl 11)])]), (.op (.ld 1 false) [(.op (.ix 1) [(.sl 10), (.sl 11)])])]))])
 (.seq (.q [(132, (.op (.bin .neq) [(.sl 12), (.k (.i .i64 0))]))])
 (.cond (.sl 132) (.seq (.q [(4, (.sl 12))])
 (.ret [4])) .skip))))
 (.q [(11, (.op (.bin .add) [(.sl 11), (.k (.i .i64 1))]))])))
def code11 : FCode := ⟨2, [.tmp 4],
 (.seq (.s [.box 3 (.t 1), .as 4 (.c (.i .i64 0))] [])
 (.seq (.seq (.q [(20, (.ite (.op (.bin .lss) [(.op .len [(.sl 0)]), (.k (.i .i64 1))]) (.k (.b true)) (.op (.bin .gtr) [(.op .len [(.sl 0)]), (.k (.i .i64 40))])))])
 (.cond (.sl 20) (.seq (.q [(4, (.k (.i .i64 5)))])
 (.ret [4])) .skip))
 (.seq (.seq (.q [(5, (.k (.i .i64 0)))])
 (.blk 0 (.loop [0, 3, 5] body11_1)))
 (.seq (.s [.fa 85 0 1 (.t 3), .q 86 (.ld 1 false) [(.t 85)], .fa 87 1 1 (.t 3), .q 88 (.ld 1 false) [(.t 87)], .fa 89 2 1 (.t 3), .q 90 (.ld 1 false) [(.t 89)], .fa 91 3 1 (.t 3), .q 92 (.ld 1 false) [(.t 91)], .fa 93 4 1 (.t 3), .q 94 (.ld 1 false) [(.t 93)], .fa 95 5 1 (.t 3), .q 96 (.ld 1 false) [(.t 95)], .fa 97 6 1 (.t 3), .q 98 (.ld 1 false) [(.t 97)], .fa 99 7 1 (.t 3), .q 100 (.ld 1 false) [(.t 99)], .fa 101 8 1 (.t 3), .q 102 (.ld 1 false) [(.t 101)], .fa 103 9 1 (.t 3), .q 104 (.ld 1 false) [(.t 103)], .fa 105 10 1 (.t 3), .q 106 (.ld 1 false) [(.t 105)], .fa 107 11 1 (.t 3), .q 108 (.ld 1 false) [(.t 107)], .fa 109 12 1 (.t 3), .q 110 (.ld 1 false) [(.t 109)], .fa 111 13 1 (.t 3), .q 112 (.ld 1 false) [(.t 111)], .bsl 113 3 1 [(.t 86), (.t 88), (.t 90), (.t 92), (.t 94), (.t 96), (.t 98), (.t 100), (.t 102), (.t 104), (.t 106), (.t 108), (.t 110), (.t 112)], .as 9 (.t 113)] [85, 86, 87, 88, 89, 90, 91, 92, 93, 94, 95, 96, 97, 98, 99, 100, 101, 102, 103, 104, 105, 106, 107, 108, 109, 110, 111, 112, 113])
 (.seq (.s [.bsl 114 3 1 [(.c (.i .i64 1)), (.c (.i .i64 2)), (.c (.i .i64 5)), (.c (.i .i64 4)), (.c (.i .i64 4)), (.c (.i .i64 2)), (.c (.i .i64 1)), (.c (.i .i64 1)), (.c (.i .i64 4)), (.c (.i .i64 4)), (.c (.i .i64 2)), (.c (.i .i64 5)), (.c (.i .i64 5)), (.c (.i .i64 4))], .as 10 (.t 114)] [114])
 (.seq (.seq (.q [(11, (.k (.i .i64 0)))])
 (.blk 2 (.loop [0, 9, 10, 11] body11_2)))
 (.seq (.q [(4, (.k (.i .i64 0)))])
 (.ret [4]))))))))⟩
theorem comp11 : compile Try.prog Try.f11 = some code11 := by kernel_rfl
theorem okf11 : okFn Try.prog 11 = true := by kernel_rfl
-- 12: corebank/chart.Find
def body12_1 : C :=
 (.seq (.q [(11, (.op (.bin .lss) [(.sl 10), (.sl 9)]))])
 (.seq (.cond (.sl 11) .skip (.exit 0 [4]))
 (.seq (.blk 1 (.seq (.s [.ix 12 4 (.t 8) (.t 10), .q 13 (.ld 4 true) [(.t 12)], .alo 7 [(.i .i64 0), (.i .i64 0), (.i .i64 0), (.s [])], .sto 4 (.t 7) (.t 13)] [12, 13])
 (.seq (.q [(17, (.op (.bin .eql) [(.op (.ld 1 false) [(.op (.fa 0 1) [(.sl 7)])]), (.sl 1)]))])
 (.cond (.sl 17) (.seq (.s [.q 18 (.ld 4 true) [(.t 7)], .sto 4 (.t 4) (.t 18), .as 5 (.c (.b true))] [18])
 (.ret [4, 5])) .skip))))
 (.q [(10, (.op (.bin .add) [(.sl 10), (.k (.i .i64 1))]))]))))
def code12 : FCode := ⟨2, [.cell 4 4 true, .tmp 5],
 (.seq (.s [.alo 4 [(.i .i64 0), (.i .i64 0), (.i .i64 0), (.s [])], .as 5 (.c (.b false))] [])
 (.seq (.seq (.s [.mv 8 (.t 0), .q 9 .len [(.t 8)], .mv 10 (.c (.i .i64 0))] [])
 (.blk 0 (.loop [1, 4, 8, 9, 10] body12_1)))
 (.seq (.s [.bld 20 [(.i .i64 0), (.i .i64 0), (.i .i64 0), (.s [])] [] [], .sto 4 (.t 4) (.t 20), .as 5 (.c (.b false))] [20])
 (.ret [4, 5]))))⟩
theorem comp12 : compile Try.prog Try.f12 = some code12 := by kernel_rfl
theorem okf12 : okFn Try.prog 12 = true := by kernel_rfl
-- 13: corebank/corebankref18.Find
def body13_1 : C :=
 (.seq (.seq (.q [(10, (.op (.bin .lss) [(.sl 6), (.op .len [(.sl 0)])]))])
 (.cond (.sl 10) .skip (.exit 0 [4])))
 (.seq (.blk 1 (.seq (.q [(19, (.op (.bin .eql) [(.op (.ld 1 false) [(.op (.fa 0 1) [(.op (.ix 4) [(.sl 0), (.sl 6)])])]), (.sl 1)]))])
 (.cond (.sl 19) (.seq (.s [.mv 20 (.t 0), .mv 21 (.t 6), .ix 22 4 (.t 20) (.t 21), .q 23 (.ld 4 true) [(.t 22)], .sto 4 (.t 4) (.t 23), .as 5 (.c (.b true))] [20, 21, 22, 23])
 (.ret [4, 5])) .skip)))
 (.q [(6, (.op (.bin .add) [(.sl 6), (.k (.i .i64 1))]))])))
def code13 : FCode := ⟨2, [.cell 4 4 true, .tmp 5],
 (.seq (.s [.alo 4 [(.i .i64 0), (.i .i64 0), (.i .i64 0), (.s [])], .as 5 (.c (.b false))] [])
 (.seq (.seq (.q [(6, (.k (.i .i64 0)))])
 (.blk 0 (.loop [0, 1, 4, 6] body13_1)))
 (.seq (.s [.bld 24 [(.i .i64 0), (.i .i64 0), (.i .i64 0), (.s [])] [] [], .sto 4 (.t 4) (.t 24), .as 5 (.c (.b false))] [24])
 (.ret [4, 5]))))⟩
theorem comp13 : compile Try.prog Try.f13 = some code13 := by kernel_rfl
theorem okf13 : okFn Try.prog 13 = true := by kernel_rfl
-- 14: corebank/corebankref18.Same
def body14_1 : C :=
 (.seq (.seq (.q [(14, (.op (.bin .lss) [(.sl 5), (.op .len [(.sl 0)])]))])
 (.cond (.sl 14) .skip (.exit 0 [])))
 (.seq (.blk 1 (.seq (.q [(25, (.op (.bin .neq) [(.op (.ld 1 false) [(.op (.ix 1) [(.sl 0), (.sl 5)])]), (.op (.ld 1 false) [(.op (.ix 1) [(.sl 1), (.sl 5)])])]))])
 (.cond (.sl 25) (.seq (.q [(4, (.k (.b false)))])
 (.ret [4])) .skip)))
 (.q [(5, (.op (.bin .add) [(.sl 5), (.k (.i .i64 1))]))])))
def code14 : FCode := ⟨2, [.tmp 4],
 (.seq (.q [(4, (.k (.b false)))])
 (.seq (.seq (.q [(10, (.op (.bin .neq) [(.op .len [(.sl 0)]), (.op .len [(.sl 1)])]))])
 (.cond (.sl 10) (.seq (.q [(4, (.k (.b false)))])
 (.ret [4])) .skip))
 (.seq (.seq (.q [(5, (.k (.i .i64 0)))])
 (.blk 0 (.loop [0, 1, 5] body14_1)))
 (.seq (.q [(4, (.k (.b true)))])
 (.ret [4])))))⟩
theorem comp14 : compile Try.prog Try.f14 = some code14 := by kernel_rfl
theorem okf14 : okFn Try.prog 14 = true := by kernel_rfl
-- 15: corebank/chart.Path
def body15_1 : C :=
 (.seq (.seq (.q [(19, (.ite (.sl 7) (.op (.bin .lss) [(.op .len [(.sl 5)]), (.k (.i .i64 40))]) (.k (.b false))))])
 (.cond (.sl 19) .skip (.exit 0 [5])))
 (.blk 1 (.seq (.s [.mv 20 (.t 5), .fa 21 0 1 (.t 6), .q 22 (.ld 1 false) [(.t 21)], .bsl 23 3 1 [(.t 22)], .app 24 3 1 8 (.t 20) (.t 23), .as 5 (.t 24)] [20, 21, 22, 23, 24])
 (.seq (.seq (.q [(27, (.op (.bin .eql) [(.op (.ld 1 false) [(.op (.fa 1 1) [(.sl 6)])]), (.k (.i .i64 0))]))])
 (.cond (.sl 27) (.exit 0 [5]) .skip))
 (.s [.mv 29 (.t 0), .fa 30 1 1 (.t 6), .q 31 (.ld 1 false) [(.t 30)], .call (some 32) 12 [(.t 29), (.t 31)], .mv 28 (.t 32), .ext 33 0 28, .ext 34 1 28, .sto 4 (.t 6) (.t 33), .as 7 (.t 34)] [29, 30, 31, 32, 28, 33, 34])))))
def code15 : FCode := ⟨2, [.tmp 4],
 (.seq (.s [.as 4 (.c (.ow 3 []))] [])
 (.seq (.s [.as 5 (.c (.ow 3 []))] [])
 (.seq (.s [.mv 9 (.t 0), .mv 10 (.t 1), .call (some 11) 12 [(.t 9), (.t 10)], .mv 8 (.t 11), .ext 12 0 8, .ext 13 1 8, .alo 6 [(.i .i64 0), (.i .i64 0), (.i .i64 0), (.s [])], .sto 4 (.t 6) (.t 12), .as 7 (.t 13)] [9, 10, 11, 8, 12, 13])
 (.seq (.blk 0 (.loop [0, 5, 6, 7] body15_1))
 (.seq (.s [.mv 35 (.t 5), .callm (some 36) 30 (mutOf 30) (.t 35) []] [35, 36])
 (.seq (.s [.mv 37 (.t 5), .as 4 (.t 37)] [37])
 (.ret [4])))))))⟩
theorem comp15 : compile Try.prog Try.f15 = some code15 := by kernel_rfl
theorem okf15 : okFn Try.prog 15 = true := by kernel_rfl
-- 16: corebank/corebankref18.Path
def body16_1 : C :=
 (.seq (.seq (.q [(19, (.ite (.sl 7) (.op (.bin .lss) [(.op .len [(.sl 5)]), (.k (.i .i64 40))]) (.k (.b false))))])
 (.cond (.sl 19) .skip (.exit 0 [5])))
 (.blk 1 (.seq (.s [.fa 20 0 1 (.t 6), .q 21 (.ld 1 false) [(.t 20)], .bsl 22 3 1 [(.t 21)], .mv 23 (.t 5), .app 24 3 1 8 (.t 22) (.t 23), .as 5 (.t 24)] [20, 21, 22, 23, 24])
 (.seq (.seq (.q [(27, (.op (.bin .eql) [(.op (.ld 1 false) [(.op (.fa 1 1) [(.sl 6)])]), (.k (.i .i64 0))]))])
 (.cond (.sl 27) (.seq (.s [.mv 28 (.t 5), .as 4 (.t 28)] [28])
 (.ret [4])) .skip))
 (.s [.mv 30 (.t 0), .fa 31 1 1 (.t 6), .q 32 (.ld 1 false) [(.t 31)], .call (some 33) 13 [(.t 30), (.t 32)], .mv 29 (.t 33), .ext 34 0 29, .ext 35 1 29, .sto 4 (.t 6) (.t 34), .as 7 (.t 35)] [30, 31, 32, 33, 29, 34, 35])))))
def code16 : FCode := ⟨2, [.tmp 4],
 (.seq (.s [.as 4 (.c (.ow 3 []))] [])
 (.seq (.s [.as 5 (.c (.ow 3 []))] [])
 (.seq (.s [.mv 9 (.t 0), .mv 10 (.t 1), .call (some 11) 13 [(.t 9), (.t 10)], .mv 8 (.t 11), .ext 12 0 8, .ext 13 1 8, .alo 6 [(.i .i64 0), (.i .i64 0), (.i .i64 0), (.s [])], .sto 4 (.t 6) (.t 12), .as 7 (.t 13)] [9, 10, 11, 8, 12, 13])
 (.seq (.blk 0 (.loop [0, 5, 6, 7] body16_1))
 (.seq (.s [.mv 36 (.t 5), .as 4 (.t 36)] [36])
 (.ret [4]))))))⟩
theorem comp16 : compile Try.prog Try.f16 = some code16 := by kernel_rfl
theorem okf16 : okFn Try.prog 16 = true := by kernel_rfl
-- 17: corebank/chart.Under
def code17 : FCode := ⟨3, [.tmp 6],
 (.seq (.q [(6, (.k (.b false)))])
 (.seq (.q [(6, (.op (.call false 31) [(.op (.call false 15) [(.sl 0), (.sl 1)]), (.sl 2)]))])
 (.ret [6])))⟩
theorem comp17 : compile Try.prog Try.f17 = some code17 := by kernel_rfl
theorem okf17 : okFn Try.prog 17 = true := by kernel_rfl
-- 18: corebank/corebankref18.Under
def body18_1 : C :=
 (.seq (.seq (.q [(15, (.op (.bin .lss) [(.sl 8), (.op .len [(.sl 7)])]))])
 (.cond (.sl 15) .skip (.exit 0 [])))
 (.seq (.blk 1 (.seq (.q [(23, (.op (.bin .eql) [(.op (.ld 1 false) [(.op (.ix 1) [(.sl 7), (.sl 8)])]), (.sl 2)]))])
 (.cond (.sl 23) (.seq (.q [(6, (.k (.b true)))])
 (.ret [6])) .skip)))
 (.q [(8, (.op (.bin .add) [(.sl 8), (.k (.i .i64 1))]))])))
def code18 : FCode := ⟨3, [.tmp 6],
 (.seq (.q [(6, (.k (.b false)))])
 (.seq (.s [.mv 9 (.t 0), .mv 10 (.t 1), .call (some 11) 16 [(.t 9), (.t 10)], .as 7 (.t 11)] [9, 10, 11])
 (.seq (.seq (.q [(8, (.k (.i .i64 0)))])
 (.blk 0 (.loop [2, 7, 8] body18_1)))
 (.seq (.q [(6, (.k (.b false)))])
 (.ret [6])))))⟩
theorem comp18 : compile Try.prog Try.f18 = some code18 := by kernel_rfl
theorem okf18 : okFn Try.prog 18 = true := by kernel_rfl
-- 19: corebank/chart.Leaves
def body19_1 : C :=
 (.seq (.q [(11, (.op (.bin .lss) [(.sl 10), (.sl 9)]))])
 (.seq (.cond (.sl 11) .skip (.exit 0 [5]))
 (.seq (.blk 1 (.seq (.s [.ix 12 4 (.t 8) (.t 10), .q 13 (.ld 4 true) [(.t 12)], .alo 7 [(.i .i64 0), (.i .i64 0), (.i .i64 0), (.s [])], .sto 4 (.t 7) (.t 13)] [12, 13])
 (.seq (.q [(25, (.ite (.op (.un .not) [(.op (.call false 27) [(.sl 0), (.op (.ld 1 false) [(.op (.fa 0 1) [(.sl 7)])])])]) (.op (.call false 17) [(.sl 0), (.op (.ld 1 false) [(.op (.fa 0 1) [(.sl 7)])]), (.sl 1)]) (.k (.b false))))])
 (.cond (.sl 25) (.s [.mv 26 (.t 5), .fa 27 0 1 (.t 7), .q 28 (.ld 1 false) [(.t 27)], .bsl 29 3 1 [(.t 28)], .app 30 3 1 8 (.t 26) (.t 29), .as 5 (.t 30)] [26, 27, 28, 29, 30]) .skip))))
 (.q [(10, (.op (.bin .add) [(.sl 10), (.k (.i .i64 1))]))]))))
def code19 : FCode := ⟨2, [.tmp 4],
 (.seq (.s [.as 4 (.c (.ow 3 []))] [])
 (.seq (.s [.as 5 (.c (.ow 3 []))] [])
 (.seq (.seq (.s [.mv 8 (.t 0), .q 9 .len [(.t 8)], .mv 10 (.c (.i .i64 0))] [])
 (.blk 0 (.loop [0, 1, 5, 8, 9, 10] body19_1)))
 (.seq (.s [.mv 32 (.t 5), .callm (some 33) 32 (mutOf 32) (.t 32) []] [32, 33])
 (.seq (.s [.mv 34 (.t 5), .callm (some 35) 33 (mutOf 33) (.t 34) [], .as 4 (.t 35)] [34, 35])
 (.ret [4]))))))⟩
theorem comp19 : compile Try.prog Try.f19 = some code19 := by kernel_rfl
theorem okf19 : okFn Try.prog 19 = true := by kernel_rfl
-- 20: corebank/corebankref18.Leaves
def body20_1 : C :=
 (.seq (.seq (.q [(49, (.ite (.op (.bin .gtr) [(.sl 7), (.k (.i .i64 0))]) (.op (.bin .gtr) [(.op (.ld 1 false) [(.op (.ix 1) [(.sl 5), (.op (.bin .sub) [(.sl 7), (.k (.i .i64 1))])])]), (.op (.ld 1 false) [(.op (.fa 0 1) [(.op (.ix 4) [(.sl 0), (.sl 6)])])])]) (.k (.b false))))])
 (.cond (.sl 49) .skip (.exit 2 [0, 1, 5, 6, 7])))
 (.blk 3 (.q [(7, (.op (.bin .sub) [(.sl 7), (.k (.i .i64 1))]))])))
def body20_2 : C :=
 (.seq (.seq (.q [(12, (.op (.bin .lss) [(.sl 6), (.op .len [(.sl 0)])]))])
 (.cond (.sl 12) .skip (.exit 0 [5])))
 (.seq (.blk 1 (.seq (.seq (.q [(32, (.ite (.op (.call false 34) [(.sl 0), (.op (.ld 1 false) [(.op (.fa 0 1) [(.op (.ix 4) [(.sl 0), (.sl 6)])])])]) (.k (.b true)) (.op (.un .not) [(.op (.call false 18) [(.sl 0), (.op (.ld 1 false) [(.op (.fa 0 1) [(.op (.ix 4) [(.sl 0), (.sl 6)])])]), (.sl 1)])])))])
 (.cond (.sl 32) (.exit 1 [0, 1, 5, 6]) .skip))
 (.seq (.q [(7, (.op .len [(.sl 5)]))])
 (.seq (.blk 2 (.loop [0, 1, 5, 6, 7] body20_1))
 (.seq (.seq (.q [(66, (.ite (.op (.bin .gtr) [(.sl 7), (.k (.i .i64 0))]) (.op (.bin .eql) [(.op (.ld 1 false) [(.op (.ix 1) [(.sl 5), (.op (.bin .sub) [(.sl 7), (.k (.i .i64 1))])])]), (.op (.ld 1 false) [(.op (.fa 0 1) [(.op (.ix 4) [(.sl 0), (.sl 6)])])])]) (.k (.b false))))])
 (.cond (.sl 66) (.exit 1 [0, 1, 5, 6]) .skip))
 (.seq (.s [.bsl 67 3 1 [], .mv 68 (.t 5), .mv 69 (.t 7), .slc 70 1 false true [(.t 68), (.t 69)], .app 71 3 1 8 (.t 67) (.t 70), .as 8 (.t 71)] [67, 68, 69, 70, 71])
 (.seq (.s [.mv 72 (.t 8), .mv 73 (.t 0), .mv 74 (.t 6), .ix 75 4 (.t 73) (.t 74), .fa 76 0 1 (.t 75), .q 77 (.ld 1 false) [(.t 76)], .bsl 78 3 1 [(.t 77)], .app 79 3 1 8 (.t 72) (.t 78), .as 8 (.t 79)] [72, 73, 74, 75, 76, 77, 78, 79])
 (.s [.mv 80 (.t 8), .mv 81 (.t 5), .mv 82 (.t 7), .slc 83 1 true false [(.t 81), (.t 82)], .app 84 3 1 8 (.t 80) (.t 83), .as 5 (.t 84)] [80, 81, 82, 83, 84]))))))))
 (.q [(6, (.op (.bin .add) [(.sl 6), (.k (.i .i64 1))]))])))
def code20 : FCode := ⟨2, [.tmp 4],
 (.seq (.s [.as 4 (.c (.ow 3 []))] [])
 (.seq (.s [.as 5 (.c (.ow 3 []))] [])
 (.seq (.seq (.q [(6, (.k (.i .i64 0)))])
 (.blk 0 (.loop [0, 1, 5, 6] body20_2)))
 (.seq (.s [.mv 85 (.t 5), .as 4 (.t 85)] [85])
 (.ret [4])))))⟩
theorem comp20 : compile Try.prog Try.f20 = some code20 := by kernel_rfl
theorem okf20 : okFn Try.prog 20 = true := by kernel_rfl
-- 22: corebank/corebankref18.Order
def code22 : FCode := ⟨1, [.tmp 2],
 (.seq (.s [.as 2 (.c (.ow 3 []))] [])
 (.seq (.s [.mv 3 (.t 0), .callm (some 4) 37 (mutOf 37) (.c (.l [])) [(.t 3), (.c (.i .i64 0))], .as 2 (.t 4)] [3, 4])
 (.ret [2])))⟩
theorem comp22 : compile Try.prog Try.f22 = some code22 := by kernel_rfl
theorem okf22 : okFn Try.prog 22 = true := by kernel_rfl
-- 23: corebank/chart.Sign
def code23 : FCode := ⟨1, [.tmp 2],
 (.seq (.q [(2, (.k (.i .i64 0)))])
 (.seq (.seq (.q [(3, (.sl 0))])
 (.blk 0 (.seq (.seq (.q [(4, (.op (.bin .eql) [(.sl 3), (.k (.i .i64 1))]))])
 (.cond (.sl 4) .skip (.q [(4, (.op (.bin .eql) [(.sl 3), (.k (.i .i64 5))]))])))
 (.cond (.sl 4) (.seq (.q [(2, (.k (.i .i64 1)))])
 (.ret [2])) (.seq (.seq (.q [(7, (.op (.bin .eql) [(.sl 3), (.k (.i .i64 2))]))])
 (.cond (.sl 7) .skip (.seq (.q [(7, (.op (.bin .eql) [(.sl 3), (.k (.i .i64 3))]))])
 (.cond (.sl 7) .skip (.q [(7, (.op (.bin .eql) [(.sl 3), (.k (.i .i64 4))]))])))))
 (.cond (.sl 7) (.seq (.q [(2, (.k (.i .i64 (-1))))])
 (.ret [2])) .skip))))))
 (.seq (.q [(2, (.k (.i .i64 0)))])
 (.ret [2]))))⟩
theorem comp23 : compile Try.prog Try.f23 = some code23 := by kernel_rfl
theorem okf23 : okFn Try.prog 23 = true := by kernel_rfl
-- 24: corebank/corebankref18.Sign
def code24 : FCode := ⟨1, [.tmp 2],
 (.seq (.q [(2, (.k (.i .i64 0)))])
 (.seq (.seq (.q [(3, (.sl 0))])
 (.blk 0 (.seq (.seq (.q [(4, (.op (.bin .eql) [(.sl 3), (.k (.i .i64 1))]))])
 (.cond (.sl 4) .skip (.q [(4, (.op (.bin .eql) [(.sl 3), (.k (.i .i64 5))]))])))
 (.cond (.sl 4) (.seq (.q [(2, (.k (.i .i64 1)))])
 (.ret [2])) (.seq (.seq (.q [(7, (.op (.bin .eql) [(.sl 3), (.k (.i .i64 2))]))])
 (.cond (.sl 7) .skip (.seq (.q [(7, (.op (.bin .eql) [(.sl 3), (.k (.i .i64 3))]))])
 (.cond (.sl 7) .skip (.q [(7, (.op (.bin .eql) [(.sl 3), (.k (.i .i64 4))]))])))))
 (.cond (.sl 7) (.seq (.q [(2, (.k (.i .i64 (-1))))])
 (.ret [2])) .skip))))))
 (.seq (.q [(2, (.k (.i .i64 0)))])
 (.ret [2]))))⟩
theorem comp24 : compile Try.prog Try.f24 = some code24 := by kernel_rfl
theorem okf24 : okFn Try.prog 24 = true := by kernel_rfl
-- 25: corebank/chart.element
def code25 : FCode := ⟨2, [.tmp 4],
 (.seq (.q [(4, (.k (.i .i64 0)))])
 (.seq (.s [.mv 8 (.t 0), .mv 9 (.t 1), .ix 10 4 (.t 8) (.t 9), .q 11 (.ld 4 true) [(.t 10)], .alo 5 [(.i .i64 0), (.i .i64 0), (.i .i64 0), (.s [])], .sto 4 (.t 5) (.t 11)] [8, 9, 10, 11])
 (.seq (.blk 0 (.seq (.q [(12, (.ite (.ite (.ite (.op (.bin .lss) [(.op (.ld 1 false) [(.op (.fa 0 1) [(.sl 5)])]), (.k (.i .i64 1))]) (.k (.b true)) (.op (.bin .gtr) [(.op (.ld 1 false) [(.op (.fa 0 1) [(.sl 5)])]), (.k (.i .i64 999))])) (.k (.b true)) (.op (.bin .lss) [(.op (.ld 1 false) [(.op (.fa 2 1) [(.sl 5)])]), (.k (.i .i64 1))])) (.k (.b true)) (.op (.bin .gtr) [(.op (.ld 1 false) [(.op (.fa 2 1) [(.sl 5)])]), (.k (.i .i64 5))])))])
 (.cond (.sl 12) (.seq (.q [(4, (.k (.i .i64 1)))])
 (.ret [4])) (.seq (.q [(31, (.ite (.op (.bin .gtr) [(.sl 1), (.k (.i .i64 0))]) (.op (.bin .leq) [(.op (.ld 1 false) [(.op (.fa 0 1) [(.sl 5)])]), (.op (.ld 1 false) [(.op (.fa 0 1) [(.op (.ix 4) [(.sl 0), (.op (.bin .sub) [(.sl 1), (.k (.i .i64 1))])])])])]) (.k (.b false))))])
 (.cond (.sl 31) (.seq (.q [(4, (.k (.i .i64 10)))])
 (.ret [4])) (.seq (.q [(45, (.op (.un .not) [(.op (.call false 38) [(.op (.ld 1 false) [(.op (.fa 3 1) [(.sl 5)])])])]))])
 (.cond (.sl 45) (.seq (.q [(4, (.k (.i .i64 4)))])
 (.ret [4])) (.seq (.q [(50, (.op (.bin .eql) [(.op (.ld 1 false) [(.op (.fa 1 1) [(.sl 5)])]), (.k (.i .i64 0))]))])
 (.cond (.sl 50) (.seq (.q [(4, (.k (.i .i64 0)))])
 (.ret [4])) .skip)))))))))
 (.seq (.d [.mv 55 (.t 0), .mv 56 (.t 1), .slc 57 4 false true [(.t 55), (.t 56)], .fa 58 1 1 (.t 5), .q 59 (.ld 1 false) [(.t 58)], .call (some 60) 12 [(.t 57), (.t 59)], .mv 54 (.t 60), .ext 61 0 54, .ext 62 1 54, .alo 6 [(.i .i64 0), (.i .i64 0), (.i .i64 0), (.s [])], .sto 4 (.t 6) (.t 61), .as 7 (.t 62)] [[], [], [0, 1], [], [3], [2, 4], [5], [6], [6], [], [9, 7, 5, 0, 1, 2, 3, 4, 5, 6, 7, 9], [8, 10, 0, 1, 2, 3, 4, 5, 6, 7, 8, 9, 10]] [55, 56, 57, 58, 59, 60, 54, 61, 62])
 (.seq (.blk 1 (.seq (.q [(63, (.op (.un .not) [(.sl 7)]))])
 (.cond (.sl 63) (.seq (.q [(4, (.k (.i .i64 11)))])
 (.ret [4])) (.seq (.q [(66, (.op (.bin .neq) [(.op (.ld 1 false) [(.op (.fa 2 1) [(.sl 6)])]), (.op (.ld 1 false) [(.op (.fa 2 1) [(.sl 5)])])]))])
 (.cond (.sl 66) (.seq (.q [(4, (.k (.i .i64 3)))])
 (.ret [4])) .skip)))))
 (.seq (.q [(4, (.k (.i .i64 0)))])
 (.ret [4])))))))⟩
theorem comp25 : compile Try.prog Try.f25 = some code25 := by kernel_rfl
theorem okf25 : okFn Try.prog 25 = true := by kernel_rfl
-- 26: corebank/chart.uses
def code26 : FCode := ⟨1, [.tmp 2],
 (.seq (.s [.box 1 (.t 0), .as 2 (.c (.ow 45 []))] [])
 (.seq (.s [.fa 3 0 1 (.t 1), .q 4 (.ld 1 false) [(.t 3)], .bld 5 [(.i .i64 0), (.i .i64 0)] [(0, 1), (1, 1)] [(.t 4), (.c (.i .i64 1))], .fa 6 1 1 (.t 1), .q 7 (.ld 1 false) [(.t 6)], .bld 8 [(.i .i64 0), (.i .i64 0)] [(0, 1), (1, 1)] [(.t 7), (.c (.i .i64 2))], .fa 9 2 1 (.t 1), .q 10 (.ld 1 false) [(.t 9)], .bld 11 [(.i .i64 0), (.i .i64 0)] [(0, 1), (1, 1)] [(.t 10), (.c (.i .i64 5))], .fa 12 3 1 (.t 1), .q 13 (.ld 1 false) [(.t 12)], .bld 14 [(.i .i64 0), (.i .i64 0)] [(0, 1), (1, 1)] [(.t 13), (.c (.i .i64 4))], .fa 15 4 1 (.t 1), .q 16 (.ld 1 false) [(.t 15)], .bld 17 [(.i .i64 0), (.i .i64 0)] [(0, 1), (1, 1)] [(.t 16), (.c (.i .i64 4))], .fa 18 5 1 (.t 1), .q 19 (.ld 1 false) [(.t 18)], .bld 20 [(.i .i64 0), (.i .i64 0)] [(0, 1), (1, 1)] [(.t 19), (.c (.i .i64 2))], .fa 21 6 1 (.t 1), .q 22 (.ld 1 false) [(.t 21)], .bld 23 [(.i .i64 0), (.i .i64 0)] [(0, 1), (1, 1)] [(.t 22), (.c (.i .i64 1))], .fa 24 7 1 (.t 1), .q 25 (.ld 1 false) [(.t 24)], .bld 26 [(.i .i64 0), (.i .i64 0)] [(0, 1), (1, 1)] [(.t 25), (.c (.i .i64 1))], .fa 27 8 1 (.t 1), .q 28 (.ld 1 false) [(.t 27)], .bld 29 [(.i .i64 0), (.i .i64 0)] [(0, 1), (1, 1)] [(.t 28), (.c (.i .i64 4))], .fa 30 9 1 (.t 1), .q 31 (.ld 1 false) [(.t 30)], .bld 32 [(.i .i64 0), (.i .i64 0)] [(0, 1), (1, 1)] [(.t 31), (.c (.i .i64 4))], .fa 33 10 1 (.t 1), .q 34 (.ld 1 false) [(.t 33)], .bld 35 [(.i .i64 0), (.i .i64 0)] [(0, 1), (1, 1)] [(.t 34), (.c (.i .i64 2))], .fa 36 11 1 (.t 1), .q 37 (.ld 1 false) [(.t 36)], .bld 38 [(.i .i64 0), (.i .i64 0)] [(0, 1), (1, 1)] [(.t 37), (.c (.i .i64 5))], .fa 39 12 1 (.t 1), .q 40 (.ld 1 false) [(.t 39)], .bld 41 [(.i .i64 0), (.i .i64 0)] [(0, 1), (1, 1)] [(.t 40), (.c (.i .i64 5))], .fa 42 13 1 (.t 1), .q 43 (.ld 1 false) [(.t 42)], .bld 44 [(.i .i64 0), (.i .i64 0)] [(0, 1), (1, 1)] [(.t 43), (.c (.i .i64 4))], .bsl 45 45 2 [(.t 5), (.t 8), (.t 11), (.t 14), (.t 17), (.t 20), (.t 23), (.t 26), (.t 29), (.t 32), (.t 35), (.t 38), (.t 41), (.t 44)], .as 2 (.t 45)] [3, 4, 5, 6, 7, 8, 9, 10, 11, 12, 13, 14, 15, 16, 17, 18, 19, 20, 21, 22, 23, 24, 25, 26, 27, 28, 29, 30, 31, 32, 33, 34, 35, 36, 37, 38, 39, 40, 41, 42, 43, 44, 45])
 (.ret [2])))⟩
theorem comp26 : compile Try.prog Try.f26 = some code26 := by kernel_rfl
theorem okf26 : okFn Try.prog 26 = true := by kernel_rfl
-- 27: corebank/chart.parent
def code27 : FCode := ⟨2, [.tmp 4],
 (.seq (.s [.box 3 (.t 1), .as 4 (.c (.b false))] [])
 (.seq (.s [.mv 5 (.t 0), .mkf 6 (.func 40) 0 [(.t 3)], .call (some 7) 39 [(.t 5), (.t 6)], .as 4 (.t 7)] [5, 6, 7])
 (.ret [4])))⟩
theorem comp27 : compile Try.prog Try.f27 = some code27 := by kernel_rfl
theorem okf27 : okFn Try.prog 27 = true := by kernel_rfl
-- 28: corebank/corebankref18.name
def body28_1 : C :=
 (.seq (.seq (.q [(24, (.op (.bin .lss) [(.sl 3), (.op .slen [(.sl 0)])]))])
 (.cond (.sl 24) .skip (.exit 0 [])))
 (.seq (.blk 1 (.seq (.q [(54, (.ite (.ite (.ite (.op (.bin .lss) [(.op .idx [(.sl 0), (.sl 3)]), (.k (.i .u8 97))]) (.k (.b true)) (.op (.bin .gtr) [(.op .idx [(.sl 0), (.sl 3)]), (.k (.i .u8 122))])) (.ite (.op (.bin .lss) [(.op .idx [(.sl 0), (.sl 3)]), (.k (.i .u8 48))]) (.k (.b true)) (.op (.bin .gtr) [(.op .idx [(.sl 0), (.sl 3)]), (.k (.i .u8 57))])) (.k (.b false))) (.op (.bin .neq) [(.op .idx [(.sl 0), (.sl 3)]), (.k (.i .u8 95))]) (.k (.b false))))])
 (.cond (.sl 54) (.seq (.q [(2, (.k (.b false)))])
 (.ret [2])) .skip)))
 (.q [(3, (.op (.bin .add) [(.sl 3), (.k (.i .i64 1))]))])))
def code28 : FCode := ⟨1, [.tmp 2],
 (.seq (.q [(2, (.k (.b false)))])
 (.seq (.seq (.q [(20, (.ite (.ite (.ite (.op (.bin .eql) [(.sl 0), (.k (.s []))]) (.k (.b true)) (.op (.bin .gtr) [(.op .slen [(.sl 0)]), (.k (.i .i64 16))])) (.k (.b true)) (.op (.bin .lss) [(.op .idx [(.sl 0), (.k (.i .i64 0))]), (.k (.i .u8 97))])) (.k (.b true)) (.op (.bin .gtr) [(.op .idx [(.sl 0), (.k (.i .i64 0))]), (.k (.i .u8 122))])))])
 (.cond (.sl 20) (.seq (.q [(2, (.k (.b false)))])
 (.ret [2])) .skip))
 (.seq (.seq (.q [(3, (.k (.i .i64 1)))])
 (.blk 0 (.loop [0, 3] body28_1)))
 (.seq (.q [(2, (.k (.b true)))])
 (.ret [2])))))⟩
theorem comp28 : compile Try.prog Try.f28 = some code28 := by kernel_rfl
theorem okf28 : okFn Try.prog 28 = true := by kernel_rfl
-- 29: corebank/corebankref18.used
def code29 : FCode := ⟨3, [.tmp 6],
 (.seq (.q [(6, (.k (.i .i64 0)))])
 (.seq (.s [.mv 10 (.t 0), .mv 11 (.t 1), .call (some 12) 13 [(.t 10), (.t 11)], .mv 9 (.t 12), .ext 13 0 9, .ext 14 1 9, .alo 7 [(.i .i64 0), (.i .i64 0), (.i .i64 0), (.s [])], .sto 4 (.t 7) (.t 13), .as 8 (.t 14)] [10, 11, 12, 9, 13, 14])
 (.seq (.seq (.q [(21, (.ite (.op (.un .not) [(.sl 8)]) (.k (.b true)) (.op (.call false 34) [(.sl 0), (.sl 1)])))])
 (.cond (.sl 21) (.seq (.q [(6, (.k (.i .i64 11)))])
 (.ret [6])) .skip))
 (.seq (.seq (.q [(25, (.op (.bin .neq) [(.op (.ld 1 false) [(.op (.fa 2 1) [(.sl 7)])]), (.sl 2)]))])
 (.cond (.sl 25) (.seq (.q [(6, (.k (.i .i64 3)))])
 (.ret [6])) .skip))
 (.seq (.q [(6, (.k (.i .i64 0)))])
 (.ret [6]))))))⟩
theorem comp29 : compile Try.prog Try.f29 = some code29 := by kernel_rfl
theorem okf29 : okFn Try.prog 29 = true := by kernel_rfl
-- 31: slices.Contains[[]int,int]
def code31 : FCode := ⟨2, [.tmp 4],
 (.seq (.q [(4, (.k (.b false)))])
 (.seq (.q [(4, (.op (.bin .geq) [(.op (.call false 41) [(.sl 0), (.sl 1)]), (.k (.i .i64 0))]))])
 (.ret [4])))⟩
theorem comp31 : compile Try.prog Try.f31 = some code31 := by kernel_rfl
theorem okf31 : okFn Try.prog 31 = true := by kernel_rfl
-- 34: corebank/corebankref18.Parent
def body34_1 : C :=
 (.seq (.seq (.q [(9, (.op (.bin .lss) [(.sl 5), (.op .len [(.sl 0)])]))])
 (.cond (.sl 9) .skip (.exit 0 [])))
 (.seq (.blk 1 (.seq (.q [(18, (.op (.bin .eql) [(.op (.ld 1 false) [(.op (.fa 1 1) [(.op (.ix 4) [(.sl 0), (.sl 5)])])]), (.sl 1)]))])
 (.cond (.sl 18) (.seq (.q [(4, (.k (.b true)))])
 (.ret [4])) .skip)))
 (.q [(5, (.op (.bin .add) [(.sl 5), (.k (.i .i64 1))]))])))
def code34 : FCode := ⟨2, [.tmp 4],
 (.seq (.q [(4, (.k (.b false)))])
 (.seq (.seq (.q [(5, (.k (.i .i64 0)))])
 (.blk 0 (.loop [0, 1, 5] body34_1)))
 (.seq (.q [(4, (.k (.b false)))])
 (.ret [4]))))⟩
theorem comp34 : compile Try.prog Try.f34 = some code34 := by kernel_rfl
theorem okf34 : okFn Try.prog 34 = true := by kernel_rfl
-- 38: corebank/chart.name
def body38_1 : C :=
 (.seq (.q [(9, (.op (.bin .lss) [(.sl 8), (.sl 7)]))])
 (.seq (.cond (.sl 9) .skip (.exit 0 [0]))
 (.seq (.blk 1 (.seq (.q [(3, (.sl 8))])
 (.seq (.q [(4, (.op .idx [(.sl 0), (.sl 3)]))])
 (.seq (.q [(5, (.ite (.op (.bin .geq) [(.sl 4), (.k (.i .u8 97))]) (.op (.bin .leq) [(.sl 4), (.k (.i .u8 122))]) (.k (.b false))))])
 (.seq (.q [(37, (.ite (.op (.un .not) [(.sl 5)]) (.ite (.op (.bin .eql) [(.sl 3), (.k (.i .i64 0))]) (.k (.b true)) (.ite (.op (.bin .neq) [(.sl 4), (.k (.i .u8 95))]) (.ite (.op (.bin .lss) [(.sl 4), (.k (.i .u8 48))]) (.k (.b true)) (.op (.bin .gtr) [(.sl 4), (.k (.i .u8 57))])) (.k (.b false)))) (.k (.b false))))])
 (.cond (.sl 37) (.seq (.q [(2, (.k (.b false)))])
 (.ret [2])) .skip))))))
 (.q [(8, (.op (.bin .add) [(.sl 8), (.k (.i .i64 1))]))]))))
def code38 : FCode := ⟨1, [.tmp 2],
 (.seq (.q [(2, (.k (.b false)))])
 (.seq (.seq (.q [(7, (.op .slen [(.sl 0)])), (8, (.k (.i .i64 0)))])
 (.blk 0 (.loop [0, 7, 8] body38_1)))
 (.seq (.q [(2, (.ite (.op (.bin .geq) [(.op .slen [(.sl 0)]), (.k (.i .i64 1))]) (.op (.bin .leq) [(.op .slen [(.sl 0)]), (.k (.i .i64 16))]) (.k (.b false))))])
 (.ret [2]))))⟩
theorem comp38 : compile Try.prog Try.f38 = some code38 := by kernel_rfl
theorem okf38 : okFn Try.prog 38 = true := by kernel_rfl
-- 39: slices.ContainsFunc[[]corebank/api.Gl,corebank/api.Gl]
def code39 : FCode := ⟨2, [.tmp 4],
 (.seq (.q [(4, (.k (.b false)))])
 (.seq (.q [(4, (.op (.bin .geq) [(.op (.call false 45) [(.sl 0), (.sl 1)]), (.k (.i .i64 0))]))])
 (.ret [4])))⟩
theorem comp39 : compile Try.prog Try.f39 = some code39 := by kernel_rfl
theorem okf39 : okFn Try.prog 39 = true := by kernel_rfl
-- 40: corebank/chart.parent$1
def code40 : FCode := ⟨2, [.tmp 3],
 (.seq (.s [.box 2 (.t 0), .as 3 (.c (.b false))] [])
 (.seq (.q [(3, (.op (.bin .eql) [(.op (.ld 1 false) [(.op (.fa 1 1) [(.sl 2)])]), (.op (.ld 1 false) [(.sl 1)])]))])
 (.ret [3])))⟩
theorem comp40 : compile Try.prog Try.f40 = some code40 := by kernel_rfl
theorem okf40 : okFn Try.prog 40 = true := by kernel_rfl
-- 41: slices.Index[[]int,int]
def body41_1 : C :=
 (.seq (.q [(9, (.op (.bin .lss) [(.sl 8), (.sl 7)]))])
 (.seq (.cond (.sl 9) .skip (.exit 0 []))
 (.seq (.blk 1 (.seq (.q [(5, (.sl 8))])
 (.seq (.q [(16, (.op (.bin .eql) [(.sl 1), (.op (.ld 1 false) [(.op (.ix 1) [(.sl 0), (.sl 5)])])]))])
 (.cond (.sl 16) (.seq (.q [(4, (.sl 5))])
 (.ret [4])) .skip))))
 (.q [(8, (.op (.bin .add) [(.sl 8), (.k (.i .i64 1))]))]))))
def code41 : FCode := ⟨2, [.tmp 4],
 (.seq (.q [(4, (.k (.i .i64 0)))])
 (.seq (.seq (.q [(7, (.op .len [(.sl 0)])), (8, (.k (.i .i64 0)))])
 (.blk 0 (.loop [0, 1, 7, 8] body41_1)))
 (.seq (.q [(4, (.k (.i .i64 (-1))))])
 (.ret [4]))))⟩
theorem comp41 : compile Try.prog Try.f41 = some code41 := by kernel_rfl
theorem okf41 : okFn Try.prog 41 = true := by kernel_rfl
-- 44: corebank/corebankref18.first
def code44 : FCode := ⟨2, [.tmp 4],
 (.seq (.q [(4, (.k (.b false)))])
 (.seq (.d [.mv 8 (.t 0), .mv 9 (.t 1), .slc 10 4 false true [(.t 8), (.t 9)], .mv 11 (.t 0), .mv 12 (.t 1), .ix 13 4 (.t 11) (.t 12), .fa 14 0 1 (.t 13), .q 15 (.ld 1 false) [(.t 14)], .call (some 16) 13 [(.t 10), (.t 15)], .mv 7 (.t 16), .ext 17 0 7, .ext 18 1 7, .alo 5 [(.i .i64 0), (.i .i64 0), (.i .i64 0), (.s [])], .sto 4 (.t 5) (.t 17), .as 6 (.t 18)] [[], [], [0, 1], [], [], [3, 4], [5], [6], [2, 7], [8], [9], [9], [], [12, 10, 8, 0, 1, 2, 3, 4, 5, 6, 7, 8, 9, 10, 12], [11, 13, 0, 1, 2, 3, 4, 5, 6, 7, 8, 9, 10, 11, 12, 13]] [8, 9, 10, 11, 12, 13, 14, 15, 16, 7, 17, 18, 5])
 (.seq (.q [(4, (.op (.un .not) [(.sl 6)]))])
 (.ret [4]))))⟩
theorem comp44 : compile Try.prog Try.f44 = some code44 := by kernel_rfl
theorem okf44 : okFn Try.prog 44 = true := by kernel_rfl
-- 45: slices.IndexFunc[[]corebank/api.Gl,corebank/api.Gl]
def body45_1 : C :=
 (.seq (.q [(9, (.op (.bin .lss) [(.sl 8), (.sl 7)]))])
 (.seq (.cond (.sl 9) .skip (.exit 0 []))
 (.seq (.blk 1 (.seq (.q [(5, (.sl 8))])
 (.seq (.q [(16, (.op (.callv false) [(.sl 1), (.op (.ld 4 true) [(.op (.ix 4) [(.sl 0), (.sl 5)])])]))])
 (.cond (.sl 16) (.seq (.q [(4, (.sl 5))])
 (.ret [4])) .skip))))
 (.q [(8, (.op (.bin .add) [(.sl 8), (.k (.i .i64 1))]))]))))
def code45 : FCode := ⟨2, [.tmp 4],
 (.seq (.q [(4, (.k (.i .i64 0)))])
 (.seq (.seq (.q [(7, (.op .len [(.sl 0)])), (8, (.k (.i .i64 0)))])
 (.blk 0 (.loop [0, 1, 7, 8] body45_1)))
 (.seq (.q [(4, (.k (.i .i64 (-1))))])
 (.ret [4]))))⟩
theorem comp45 : compile Try.prog Try.f45 = some code45 := by kernel_rfl
theorem okf45 : okFn Try.prog 45 = true := by kernel_rfl
/-- All of them. -/
def codes : List (Nat × FCode) := [(2, code2), (3, code3), (4, code4), (5, code5), (6, code6), (7, code7), (9, code9), (10, code10), (11, code11), (12, code12), (13, code13), (14, code14), (15, code15), (16, code16), (17, code17), (18, code18), (19, code19), (20, code20), (22, code22), (23, code23), (24, code24), (25, code25), (26, code26), (27, code27), (28, code28), (29, code29), (31, code31), (34, code34), (38, code38), (39, code39), (40, code40), (41, code41), (44, code44), (45, code45)]
def tab : Nat → Option FCode := tabOf codes
theorem codes_ok : ∀ p ∈ codes, ∃ fn, Try.prog.funcs[p.1]? = some fn ∧ compile Try.prog fn = some p.2 ∧ okFn Try.prog p.1 = true := by
  unfold codes
  simp only [List.forall_mem_cons]
  exact ⟨⟨_, Try.func2, comp2, okf2⟩, ⟨_, Try.func3, comp3, okf3⟩, ⟨_, Try.func4, comp4, okf4⟩, ⟨_, Try.func5, comp5, okf5⟩, ⟨_, Try.func6, comp6, okf6⟩, ⟨_, Try.func7, comp7, okf7⟩, ⟨_, Try.func9, comp9, okf9⟩, ⟨_, Try.func10, comp10, okf10⟩, ⟨_, Try.func11, comp11, okf11⟩, ⟨_, Try.func12, comp12, okf12⟩, ⟨_, Try.func13, comp13, okf13⟩, ⟨_, Try.func14, comp14, okf14⟩, ⟨_, Try.func15, comp15, okf15⟩, ⟨_, Try.func16, comp16, okf16⟩, ⟨_, Try.func17, comp17, okf17⟩, ⟨_, Try.func18, comp18, okf18⟩, ⟨_, Try.func19, comp19, okf19⟩, ⟨_, Try.func20, comp20, okf20⟩, ⟨_, Try.func22, comp22, okf22⟩, ⟨_, Try.func23, comp23, okf23⟩, ⟨_, Try.func24, comp24, okf24⟩, ⟨_, Try.func25, comp25, okf25⟩, ⟨_, Try.func26, comp26, okf26⟩, ⟨_, Try.func27, comp27, okf27⟩, ⟨_, Try.func28, comp28, okf28⟩, ⟨_, Try.func29, comp29, okf29⟩, ⟨_, Try.func31, comp31, okf31⟩, ⟨_, Try.func34, comp34, okf34⟩, ⟨_, Try.func38, comp38, okf38⟩, ⟨_, Try.func39, comp39, okf39⟩, ⟨_, Try.func40, comp40, okf40⟩, ⟨_, Try.func41, comp41, okf41⟩, ⟨_, Try.func44, comp44, okf44⟩, ⟨_, Try.func45, comp45, okf45⟩, fun _ h => by cases h⟩
end Go.Proofs.Ytdaclkakglmfeaa
