/-
  The code of the functions that the laws reach, as the evaluator runs it: printed by a program of ours off the translation, and held against it by the kernel.
-/
import Derived.Test.YtmhbkofbbkogeaaProg
import Derived.Test.YtmhbkofbbkogeaaVmP
import Derived.Test.YtmhbkofbbkogeaaVmO
import Derived.KernelRfl
namespace Go.Proofs.Ytmhbkofbbkogeaa
open Go.VM
/-- The library functions that write into a slice of the call own. -/
instance glob : Glob := ⟨[], [(56, ⟨3, false, false, revRun⟩)]⟩
-- 2: gosem.cut.init
def code2 : FCode := ⟨0, [],
 (.s [.call (some 0) 1 []] [0])⟩
theorem comp2 : compile Try.prog Try.f2 = some code2 := by kernel_rfl
theorem okf2 : okFn Try.prog 2 = true := by kernel_rfl
-- 3: corebank/corebanklaw49.ReportChecks
def code3 : FCode := ⟨3, [.tmp 6],
 (.seq (.s [.box 3 (.t 0), .as 6 (.c (.b false))] [])
 (.seq (.seq (.q [(12, (.ite (.op (.call false 7) [(.op (.ld 22 true) [(.sl 3)])]) (.k (.b true)) (.op (.call false 8) [(.sl 1)])))])
 (.cond (.sl 12) (.seq (.q [(6, (.k (.b true)))])
 (.ret [6])) .skip))
 (.seq (.q [(6, (.ite (.ite (.op (.bin .eql) [(.op (.call true 9) [(.op (.ld 22 true) [(.sl 3)]), (.sl 1)]), (.op (.call true 10) [(.op (.ld 22 true) [(.sl 3)]), (.sl 1)])]) (.op (.bin .eql) [(.op (.call true 11) [(.op (.ld 22 true) [(.sl 3)]), (.sl 2)]), (.op (.call true 12) [(.op (.ld 22 true) [(.sl 3)]), (.sl 2)])]) (.k (.b false))) (.op (.call true 13) []) (.k (.b false))))])
 (.ret [6]))))⟩
theorem comp3 : compile Try.prog Try.f3 = some code3 := by kernel_rfl
theorem okf3 : okFn Try.prog 3 = true := by kernel_rfl
-- 4: corebank/corebanklaw49.ReportMakes
def code4 : FCode := ⟨3, [.tmp 6],
 (.seq (.s [.box 3 (.t 0), .as 6 (.c (.b false))] [])
 (.seq (.seq (.q [(26, (.ite (.ite (.op (.call false 7) [(.op (.ld 22 true) [(.sl 3)])]) (.k (.b true)) (.op (.call false 8) [(.sl 1)])) (.k (.b true)) (.ite (.op (.bin .gtr) [(.op .len [(.sl 1)]), (.k (.i .i64 10))]) (.op (.bin .leq) [(.op .len [(.sl 1)]), (.k (.i .i64 64))]) (.k (.b false)))))])
 (.cond (.sl 26) (.seq (.q [(6, (.k (.b true)))])
 (.ret [6])) .skip))
 (.seq (.s [.q 28 (.ld 22 true) [(.t 3)], .mv 29 (.t 1), .mv 30 (.t 2), .call (some 31) 14 [(.t 28), (.t 29), (.t 30)], .mv 27 (.t 31), .ext 32 0 27, .ext 33 1 27, .as 7 (.t 32), .as 8 (.t 33)] [28, 29, 30, 31, 27, 32, 33])
 (.seq (.s [.q 35 (.ld 22 true) [(.t 3)], .mv 36 (.t 1), .mv 37 (.t 2), .call (some 38) 15 [(.t 35), (.t 36), (.t 37)], .mv 34 (.t 38), .ext 39 0 34, .ext 40 1 34, .as 9 (.t 39), .as 10 (.t 40)] [35, 36, 37, 38, 34, 39, 40])
 (.seq (.q [(6, (.ite (.ite (.op (.bin .eql) [(.sl 8), (.sl 10)]) (.op (.call false 16) [(.sl 7), (.sl 9)]) (.k (.b false))) (.op (.call false 13) []) (.k (.b false))))])
 (.ret [6]))))))⟩
theorem comp4 : compile Try.prog Try.f4 = some code4 := by kernel_rfl
theorem okf4 : okFn Try.prog 4 = true := by kernel_rfl
-- 5: corebank/corebanklaw49.ReportEntries
def code5 : FCode := ⟨3, [.tmp 6],
 (.seq (.s [.box 3 (.t 0), .box 4 (.t 1), .box 5 (.t 2), .as 6 (.c (.b false))] [])
 (.seq (.seq (.q [(23, (.ite (.ite (.op (.call false 7) [(.op (.ld 22 true) [(.sl 3)])]) (.k (.b true)) (.op (.call false 8) [(.op (.bsl 3) [(.op (.ld 3 true) [(.sl 4)])])])) (.k (.b true)) (.op (.bin .gtr) [(.op .slen [(.op (.ld 1 false) [(.op (.fa 0 1) [(.sl 5)])])]), (.k (.i .i64 100))])))])
 (.cond (.sl 23) (.seq (.q [(6, (.k (.b true)))])
 (.ret [6])) .skip))
 (.seq (.s [.q 25 (.ld 22 true) [(.t 3)], .q 26 (.ld 3 true) [(.t 4)], .fa 27 0 1 (.t 5), .q 28 (.ld 1 false) [(.t 27)], .fa 29 1 1 (.t 5), .q 30 (.ld 1 false) [(.t 29)], .call (some 31) 17 [(.t 25), (.t 26), (.t 28), (.t 30)], .mv 24 (.t 31), .ext 32 0 24, .ext 33 1 24, .as 7 (.t 32), .as 8 (.t 33)] [25, 26, 27, 28, 29, 30, 31, 24, 32, 33])
 (.seq (.s [.q 35 (.ld 22 true) [(.t 3)], .q 36 (.ld 3 true) [(.t 4)], .fa 37 0 1 (.t 5), .q 38 (.ld 1 false) [(.t 37)], .fa 39 1 1 (.t 5), .q 40 (.ld 1 false) [(.t 39)], .call (some 41) 18 [(.t 35), (.t 36), (.t 38), (.t 40)], .mv 34 (.t 41), .ext 42 0 34, .ext 43 1 34, .as 9 (.t 42), .as 10 (.t 43)] [35, 36, 37, 38, 39, 40, 41, 34, 42, 43])
 (.seq (.q [(6, (.ite (.ite (.ite (.op (.bin .eql) [(.sl 8), (.sl 10)]) (.op (.call true 19) [(.sl 7), (.sl 9)]) (.k (.b false))) (.op (.bin .eql) [(.op (.call true 20) [(.op (.ld 22 true) [(.sl 3)]), (.op (.ld 3 true) [(.sl 4)]), (.op (.ld 1 false) [(.op (.fa 0 1) [(.sl 5)])]), (.op (.ld 1 false) [(.op (.fa 2 1) [(.sl 5)])])]), (.op (.call true 21) [(.op (.ld 22 true) [(.sl 3)]), (.op (.ld 3 true) [(.sl 4)]), (.op (.ld 1 false) [(.op (.fa 0 1) [(.sl 5)])]), (.op (.ld 1 false) [(.op (.fa 2 1) [(.sl 5)])])])]) (.k (.b false))) (.op (.call true 13) []) (.k (.b false))))])
 (.ret [6]))))))⟩
theorem comp5 : compile Try.prog Try.f5 = some code5 := by kernel_rfl
theorem okf5 : okFn Try.prog 5 = true := by kernel_rfl
-- 6: corebank/corebanklaw49.ReportDrills
def body6_1 : C :=
 (.seq (.seq (.q [(98, (.op (.bin .lss) [(.sl 14), (.op .len [(.sl 11)])]))])
 (.cond (.sl 98) .skip (.exit 2 [1, 2, 3, 7, 9, 13])))
 (.seq (.blk 3 (.seq (.q [(15, (.op (.call true 20) [(.op (.ld 22 true) [(.sl 3)]), (.op (.ld 3 true) [(.sl 10)]), (.op (.ld 1 false) [(.op (.fa 1 1) [(.op (.ix 3) [(.sl 7), (.sl 9)])])]), (.op (.ld 1 false) [(.op (.ix 1) [(.sl 11), (.sl 14)])])]))])
 (.seq (.seq (.q [(114, (.op (.bin .eql) [(.sl 15), (.k (.i .i64 0))]))])
 (.cond (.sl 114) (.seq (.q [(6, (.k (.b false)))])
 (.ret [6])) .skip))
 (.q [(13, (.op (.bin .add) [(.sl 13), (.sl 15)]))]))))
 (.q [(14, (.op (.bin .add) [(.sl 14), (.k (.i .i64 1))]))])))
def body6_2 : C :=
 (.seq (.seq (.q [(60, (.op (.bin .lss) [(.sl 9), (.op .len [(.sl 7)])]))])
 (.cond (.sl 60) .skip (.exit 0 [])))
 (.seq (.blk 1 (.seq (.s [.mv 63 (.t 1), .mv 64 (.t 9), .fa 65 0 1 (.t 3), .q 66 (.ld 1 false) [(.t 65)], .q 67 .len [(.t 66)], .q 68 (.bin .quo) [(.t 64), (.t 67)], .ix 69 3 (.t 63) (.t 68), .q 70 (.ld 3 true) [(.t 69)], .alo 10 [(.s []), (.i .i64 0), (.l [])], .sto 3 (.t 10) (.t 70)] [63, 64, 65, 66, 67, 68, 69, 70])
 (.seq (.d [.q 72 (.ld 22 true) [(.t 3)], .q 73 (.ld 3 true) [(.t 10)], .mv 74 (.t 7), .mv 75 (.t 9), .ix 76 3 (.t 74) (.t 75), .fa 77 1 1 (.t 76), .q 78 (.ld 1 false) [(.t 77)], .mv 79 (.t 2), .call (some 80) 17 [(.t 72), (.t 73), (.t 78), (.t 79)], .mv 71 (.t 80), .ext 81 0 71, .ext 82 1 71, .as 11 (.t 81), .as 12 (.t 82)] [[], [], [], [], [2, 3], [4], [5], [], [0, 1, 6, 7], [8], [9], [9], [10, 8, 0, 1, 2, 3, 4, 5, 6, 7, 8, 9, 10], [11, 12, 0, 1, 2, 3, 4, 5, 6, 7, 8, 9, 10, 11, 12]] [72, 73, 74, 75, 76, 77, 78, 79, 80, 71, 81, 82])
 (.seq (.seq (.q [(94, (.ite (.op (.bin .neq) [(.sl 12), (.k (.i .i64 0))]) (.k (.b true)) (.op (.bin .neq) [(.op (.ld 1 false) [(.op (.fa 0 1) [(.op (.ix 3) [(.sl 7), (.sl 9)])])]), (.op (.ld 1 false) [(.op (.fa 0 1) [(.sl 10)])])])))])
 (.cond (.sl 94) (.seq (.q [(6, (.k (.b false)))])
 (.ret [6])) .skip))
 (.seq (.q [(13, (.k (.i .i64 0)))])
 (.seq (.seq (.q [(14, (.k (.i .i64 0)))])
 (.blk 2 (.loop [1, 2, 3, 7, 9, 10, 11, 13, 14] body6_1)))
 (.seq (.q [(124, (.op (.bin .neq) [(.sl 13), (.op (.ld 1 false) [(.op (.fa 2 1) [(.op (.ix 3) [(.sl 7), (.sl 9)])])])]))])
 (.cond (.sl 124) (.seq (.q [(6, (.k (.b false)))])
 (.ret [6])) .skip))))))))
 (.q [(9, (.op (.bin .add) [(.sl 9), (.k (.i .i64 1))]))])))
def code6 : FCode := ⟨3, [.tmp 6],
 (.seq (.s [.box 3 (.t 0), .as 6 (.c (.b false))] [])
 (.seq (.seq (.q [(32, (.ite (.ite (.ite (.op (.call false 7) [(.op (.ld 22 true) [(.sl 3)])]) (.k (.b true)) (.op (.call false 8) [(.sl 1)])) (.k (.b true)) (.op (.bin .gtr) [(.op .len [(.sl 1)]), (.k (.i .i64 10))])) (.k (.b true)) (.op (.un .not) [(.op (.call false 22) [(.op (.ld 1 false) [(.op (.fa 19 1) [(.sl 3)])])])])))])
 (.cond (.sl 32) (.seq (.q [(6, (.k (.b true)))])
 (.ret [6])) .skip))
 (.seq (.s [.q 34 (.ld 22 true) [(.t 3)], .mv 35 (.t 1), .mv 36 (.t 2), .call (some 37) 14 [(.t 34), (.t 35), (.t 36)], .mv 33 (.t 37), .ext 38 0 33, .ext 39 1 33, .as 7 (.t 38), .as 8 (.t 39)] [34, 35, 36, 37, 33, 38, 39])
 (.seq (.seq (.q [(41, (.op (.bin .neq) [(.sl 8), (.k (.i .i64 0))]))])
 (.cond (.sl 41) (.seq (.q [(6, (.ite (.op (.bin .eql) [(.op .len [(.sl 7)]), (.k (.i .i64 0))]) (.op (.call false 13) []) (.k (.b false))))])
 (.ret [6])) .skip))
 (.seq (.seq (.q [(56, (.op (.bin .neq) [(.op .len [(.sl 7)]), (.op (.bin .mul) [(.op .len [(.sl 1)]), (.op .len [(.op (.ld 1 false) [(.op (.fa 0 1) [(.sl 3)])])])])]))])
 (.cond (.sl 56) (.seq (.q [(6, (.k (.b false)))])
 (.ret [6])) .skip))
 (.seq (.seq (.q [(9, (.k (.i .i64 0)))])
 (.blk 0 (.loop [1, 2, 3, 7, 9] body6_2)))
 (.seq (.q [(6, (.op (.call false 13) []))])
 (.ret [6]))))))))⟩
theorem comp6 : compile Try.prog Try.f6 = some code6 := by kernel_rfl
theorem okf6 : okFn Try.prog 6 = true := by kernel_rfl
-- 7: corebank/corebankref25.Great
def body7_1 : C :=
 (.seq (.seq (.q [(55, (.op (.bin .lss) [(.sl 3), (.op .len [(.op (.ld 1 false) [(.op (.fa 17 1) [(.sl 1)])])])]))])
 (.cond (.sl 55) .skip (.exit 0 [1])))
 (.seq (.blk 1 (.seq (.q [(63, (.op (.call false 24) [(.op (.ld 19 true) [(.op (.ix 19) [(.op (.ld 1 false) [(.op (.fa 17 1) [(.sl 1)])]), (.sl 3)])])]))])
 (.cond (.sl 63) (.seq (.q [(2, (.k (.b true)))])
 (.ret [2])) .skip)))
 (.q [(3, (.op (.bin .add) [(.sl 3), (.k (.i .i64 1))]))])))
def body7_2 : C :=
 (.seq (.seq (.q [(68, (.op (.bin .lss) [(.sl 4), (.op .len [(.op (.ld 1 false) [(.op (.fa 19 1) [(.sl 1)])])])]))])
 (.cond (.sl 68) .skip (.exit 2 [1])))
 (.seq (.blk 3 (.seq (.q [(76, (.op (.call false 25) [(.op (.ld 10 true) [(.op (.ix 10) [(.op (.ld 1 false) [(.op (.fa 19 1) [(.sl 1)])]), (.sl 4)])])]))])
 (.cond (.sl 76) (.seq (.q [(2, (.k (.b true)))])
 (.ret [2])) .skip)))
 (.q [(4, (.op (.bin .add) [(.sl 4), (.k (.i .i64 1))]))])))
def body7_3 : C :=
 (.seq (.seq (.q [(81, (.op (.bin .lss) [(.sl 5), (.op .len [(.op (.ld 1 false) [(.op (.fa 1 1) [(.sl 1)])])])]))])
 (.cond (.sl 81) .skip (.exit 4 [])))
 (.seq (.blk 5 (.seq (.q [(101, (.ite (.op (.bin .gtr) [(.op .len [(.op (.ld 1 false) [(.op (.fa 2 1) [(.op (.ix 3) [(.op (.ld 1 false) [(.op (.fa 1 1) [(.sl 1)])]), (.sl 5)])])])]), (.k (.i .i64 400))]) (.k (.b true)) (.op (.bin .gtr) [(.op .len [(.op (.ld 1 false) [(.op (.fa 1 1) [(.op (.ix 3) [(.op (.ld 1 false) [(.op (.fa 1 1) [(.sl 1)])]), (.sl 5)])])])]), (.k (.i .i64 20))])))])
 (.cond (.sl 101) (.seq (.q [(2, (.k (.b true)))])
 (.ret [2])) .skip)))
 (.q [(5, (.op (.bin .add) [(.sl 5), (.k (.i .i64 1))]))])))
def code7 : FCode := ⟨1, [.tmp 2],
 (.seq (.s [.box 1 (.t 0), .as 2 (.c (.b false))] [])
 (.seq (.seq (.q [(50, (.ite (.ite (.ite (.ite (.ite (.ite (.ite (.op (.bin .gtr) [(.op .len [(.op (.ld 1 false) [(.op (.fa 0 1) [(.sl 1)])])]), (.k (.i .i64 20))]) (.k (.b true)) (.op (.bin .gtr) [(.op .len [(.op (.ld 1 false) [(.op (.fa 1 1) [(.sl 1)])])]), (.k (.i .i64 10))])) (.k (.b true)) (.op (.bin .gtr) [(.op .len [(.op (.ld 1 false) [(.op (.fa 2 1) [(.sl 1)])])]), (.k (.i .i64 60))])) (.k (.b true)) (.op (.bin .gtr) [(.op .len [(.op (.ld 1 false) [(.op (.fa 17 1) [(.sl 1)])])]), (.k (.i .i64 20))])) (.k (.b true)) (.op (.bin .gtr) [(.op .len [(.op (.ld 1 false) [(.op (.fa 18 1) [(.sl 1)])])]), (.k (.i .i64 40))])) (.k (.b true)) (.op (.bin .gtr) [(.op .len [(.op (.ld 1 false) [(.op (.fa 19 1) [(.sl 1)])])]), (.k (.i .i64 150))])) (.k (.b true)) (.op (.call false 23) [(.op (.ld 1 false) [(.op (.fa 20 1) [(.sl 1)])])])) (.k (.b true)) (.op (.bin .gtr) [(.op .len [(.op (.ld 1 false) [(.op (.fa 21 1) [(.sl 1)])])]), (.k (.i .i64 100))])))])
 (.cond (.sl 50) (.seq (.q [(2, (.k (.b true)))])
 (.ret [2])) .skip))
 (.seq (.seq (.q [(3, (.k (.i .i64 0)))])
 (.blk 0 (.loop [1, 3] body7_1)))
 (.seq (.seq (.q [(4, (.k (.i .i64 0)))])
 (.blk 2 (.loop [1, 4] body7_2)))
 (.seq (.seq (.q [(5, (.k (.i .i64 0)))])
 (.blk 4 (.loop [1, 5] body7_3)))
 (.seq (.q [(2, (.k (.b false)))])
 (.ret [2])))))))⟩
theorem comp7 : compile Try.prog Try.f7 = some code7 := by kernel_rfl
theorem okf7 : okFn Try.prog 7 = true := by kernel_rfl
-- 8: corebank/corebankref49.Great
def body8_1 : C :=
 (.seq (.seq (.q [(10, (.op (.bin .lss) [(.sl 3), (.op .len [(.sl 0)])]))])
 (.cond (.sl 10) .skip (.exit 0 [])))
 (.seq (.blk 1 (.seq (.q [(28, (.ite (.op (.bin .gtr) [(.op .len [(.op (.ld 1 false) [(.op (.fa 2 1) [(.op (.ix 3) [(.sl 0), (.sl 3)])])])]), (.k (.i .i64 20))]) (.k (.b true)) (.op (.bin .gtr) [(.op .slen [(.op (.ld 1 false) [(.op (.fa 0 1) [(.op (.ix 3) [(.sl 0), (.sl 3)])])])]), (.k (.i .i64 200))])))])
 (.cond (.sl 28) (.seq (.q [(2, (.k (.b true)))])
 (.ret [2])) .skip)))
 (.q [(3, (.op (.bin .add) [(.sl 3), (.k (.i .i64 1))]))])))
def code8 : FCode := ⟨1, [.tmp 2],
 (.seq (.q [(2, (.k (.b false)))])
 (.seq (.seq (.q [(6, (.op (.bin .gtr) [(.op .len [(.sl 0)]), (.k (.i .i64 100))]))])
 (.cond (.sl 6) (.seq (.q [(2, (.k (.b true)))])
 (.ret [2])) .skip))
 (.seq (.seq (.q [(3, (.k (.i .i64 0)))])
 (.blk 0 (.loop [0, 3] body8_1)))
 (.seq (.q [(2, (.k (.b false)))])
 (.ret [2])))))⟩
theorem comp8 : compile Try.prog Try.f8 = some code8 := by kernel_rfl
theorem okf8 : okFn Try.prog 8 = true := by kernel_rfl
-- 9: corebank/report.Check
def body9_1 : C :=
 (.seq (.q [(19, (.op (.bin .lss) [(.sl 18), (.sl 17)]))])
 (.seq (.cond (.sl 19) .skip (.exit 0 []))
 (.seq (.blk 1 (.seq (.s [.ix 20 3 (.t 16) (.t 18), .q 21 (.ld 3 true) [(.t 20)], .alo 6 [(.s []), (.i .i64 0), (.l [])], .sto 3 (.t 6) (.t 21)] [20, 21])
 (.seq (.blk 2 (.seq (.q [(22, (.op (.un .not) [(.op (.call false 26) [(.op (.ld 1 false) [(.op (.fa 0 1) [(.sl 6)])])])]))])
 (.cond (.sl 22) (.seq (.q [(4, (.k (.i .i64 4)))])
 (.ret [4])) (.seq (.q [(27, (.ite (.op (.bin .neq) [(.op (.ld 1 false) [(.op (.fa 1 1) [(.sl 6)])]), (.k (.i .i64 1))]) (.op (.bin .neq) [(.op (.ld 1 false) [(.op (.fa 1 1) [(.sl 6)])]), (.k (.i .i64 (-1)))]) (.k (.b false))))])
 (.cond (.sl 27) (.seq (.q [(4, (.k (.i .i64 1)))])
 (.ret [4])) .skip)))))
 (.seq (.q [(7, (.op (.call false 27) [(.op (.ld 22 true) [(.sl 2)]), (.op (.ld 1 false) [(.op (.fa 2 1) [(.sl 6)])])]))])
 (.seq (.q [(41, (.op (.bin .neq) [(.sl 7), (.k (.i .i64 0))]))])
 (.cond (.sl 41) (.seq (.q [(4, (.sl 7))])
 (.ret [4])) .skip))))))
 (.q [(18, (.op (.bin .add) [(.sl 18), (.k (.i .i64 1))]))]))))
def code9 : FCode := ⟨2, [.tmp 4],
 (.seq (.s [.box 2 (.t 0), .as 4 (.c (.i .i64 0))] [])
 (.seq (.seq (.q [(15, (.ite (.op (.bin .lss) [(.op .len [(.sl 1)]), (.k (.i .i64 1))]) (.k (.b true)) (.op (.bin .gtr) [(.op .len [(.sl 1)]), (.k (.i .i64 64))])))])
 (.cond (.sl 15) (.seq (.q [(4, (.k (.i .i64 5)))])
 (.ret [4])) .skip))
 (.seq (.seq (.s [.mv 16 (.t 1), .q 17 .len [(.t 16)], .mv 18 (.c (.i .i64 0))] [])
 (.blk 0 (.loop [2, 16, 17, 18] body9_1)))
 (.seq (.q [(4, (.k (.i .i64 0)))])
 (.ret [4])))))⟩
theorem comp9 : compile Try.prog Try.f9 = some code9 := by kernel_rfl
theorem okf9 : okFn Try.prog 9 = true := by kernel_rfl
-- 10: corebank/corebankref49.Check
def body10_1 : C :=
 (.seq (.seq (.q [(18, (.op (.bin .lss) [(.sl 5), (.op .len [(.sl 1)])]))])
 (.cond (.sl 18) .skip (.exit 0 [])))
 (.seq (.blk 1 (.seq (.seq (.q [(27, (.op (.un .not) [(.op (.call false 28) [(.op (.ld 1 false) [(.op (.fa 0 1) [(.op (.ix 3) [(.sl 1), (.sl 5)])])])])]))])
 (.cond (.sl 27) (.seq (.q [(4, (.k (.i .i64 4)))])
 (.ret [4])) .skip))
 (.seq (.seq (.q [(41, (.ite (.op (.bin .neq) [(.op (.ld 1 false) [(.op (.fa 1 1) [(.op (.ix 3) [(.sl 1), (.sl 5)])])]), (.k (.i .i64 1))]) (.op (.bin .neq) [(.op (.ld 1 false) [(.op (.fa 1 1) [(.op (.ix 3) [(.sl 1), (.sl 5)])])]), (.k (.i .i64 (-1)))]) (.k (.b false))))])
 (.cond (.sl 41) (.seq (.q [(4, (.k (.i .i64 1)))])
 (.ret [4])) .skip))
 (.seq (.q [(6, (.op (.call true 29) [(.op (.ld 22 true) [(.sl 2)]), (.op (.ld 1 false) [(.op (.fa 2 1) [(.op (.ix 3) [(.sl 1), (.sl 5)])])])]))])
 (.seq (.q [(50, (.op (.bin .neq) [(.sl 6), (.k (.i .i64 0))]))])
 (.cond (.sl 50) (.seq (.q [(4, (.sl 6))])
 (.ret [4])) .skip))))))
 (.q [(5, (.op (.bin .add) [(.sl 5), (.k (.i .i64 1))]))])))
def code10 : FCode := ⟨2, [.tmp 4],
 (.seq (.s [.box 2 (.t 0), .as 4 (.c (.i .i64 0))] [])
 (.seq (.seq (.q [(14, (.ite (.op (.bin .lss) [(.op .len [(.sl 1)]), (.k (.i .i64 1))]) (.k (.b true)) (.op (.bin .gtr) [(.op .len [(.sl 1)]), (.k (.i .i64 64))])))])
 (.cond (.sl 14) (.seq (.q [(4, (.k (.i .i64 5)))])
 (.ret [4])) .skip))
 (.seq (.seq (.q [(5, (.k (.i .i64 0)))])
 (.blk 0 (.loop [1, 2, 5] body10_1)))
 (.seq (.q [(4, (.k (.i .i64 0)))])
 (.ret [4])))))⟩
theorem comp10 : compile Try.prog Try.f10 = some code10 := by kernel_rfl
theorem okf10 : okFn Try.prog 10 = true := by kernel_rfl
-- 11: corebank/report.Owner
def code11 : FCode := ⟨2, [.tmp 4],
 (.seq (.s [.box 2 (.t 0), .as 4 (.c (.i .i64 0))] [])
 (.seq (.seq (.s [.fa 10 2 1 (.t 2), .q 11 (.ld 1 false) [(.t 10)], .mv 12 (.t 1), .call (some 13) 30 [(.t 11), (.t 12)], .mv 9 (.t 13), .ext 14 0 9, .ext 15 1 9, .alo 5 [(.i .i64 0), (.i .i64 0), (.i .i64 0), (.s [])], .sto 4 (.t 5) (.t 14), .as 6 (.t 15)] [10, 11, 12, 13, 9, 14, 15, 5])
 (.seq (.q [(16, (.sl 6))])
 (.cond (.sl 16) (.seq (.q [(4, (.sl 1))])
 (.ret [4])) .skip)))
 (.seq (.seq (.s [.q 19 (.ld 22 true) [(.t 2)], .mv 20 (.t 1), .call (some 21) 31 [(.t 19), (.t 20)], .mv 18 (.t 21), .ext 22 0 18, .ext 23 1 18, .alo 7 [(.i .i64 0), (.i .i64 0), (.i .i64 0), (.i .i64 0), (.s []), (.s []), (.s [])], .sto 7 (.t 7) (.t 22), .as 8 (.t 23)] [19, 20, 21, 18, 22, 23, 7])
 (.seq (.q [(24, (.sl 8))])
 (.cond (.sl 24) (.seq (.q [(4, (.op (.ld 1 false) [(.op (.fa 1 1) [(.op (.fa 3 14) [(.sl 2)])])]))])
 (.ret [4])) .skip)))
 (.seq (.q [(4, (.k (.i .i64 0)))])
 (.ret [4])))))⟩
theorem comp11 : compile Try.prog Try.f11 = some code11 := by kernel_rfl
theorem okf11 : okFn Try.prog 11 = true := by kernel_rfl
-- 12: corebank/corebankref49.Owner
def code12 : FCode := ⟨2, [.tmp 4],
 (.seq (.s [.box 2 (.t 0), .as 4 (.c (.i .i64 0))] [])
 (.seq (.seq (.s [.fa 10 2 1 (.t 2), .q 11 (.ld 1 false) [(.t 10)], .mv 12 (.t 1), .call (some 13) 32 [(.t 11), (.t 12)], .mv 9 (.t 13), .ext 14 0 9, .ext 15 1 9, .alo 5 [(.i .i64 0), (.i .i64 0), (.i .i64 0), (.s [])], .sto 4 (.t 5) (.t 14), .as 6 (.t 15)] [10, 11, 12, 13, 9, 14, 15, 5])
 (.seq (.q [(16, (.sl 6))])
 (.cond (.sl 16) (.seq (.q [(4, (.sl 1))])
 (.ret [4])) .skip)))
 (.seq (.seq (.s [.q 19 (.ld 22 true) [(.t 2)], .mv 20 (.t 1), .call (some 21) 33 [(.t 19), (.t 20)], .mv 18 (.t 21), .ext 22 0 18, .ext 23 1 18, .alo 7 [(.i .i64 0), (.i .i64 0), (.i .i64 0), (.i .i64 0), (.s []), (.s []), (.s [])], .sto 7 (.t 7) (.t 22), .as 8 (.t 23)] [19, 20, 21, 18, 22, 23, 7])
 (.seq (.q [(24, (.sl 8))])
 (.cond (.sl 24) (.seq (.q [(4, (.op (.ld 1 false) [(.op (.fa 1 1) [(.op (.fa 3 14) [(.sl 2)])])]))])
 (.ret [4])) .skip)))
 (.seq (.q [(4, (.k (.i .i64 0)))])
 (.ret [4])))))⟩
theorem comp12 : compile Try.prog Try.f12 = some code12 := by kernel_rfl
theorem okf12 : okFn Try.prog 12 = true := by kernel_rfl
-- 13: corebank/corebanklaw49.Live
def code13 : FCode := ⟨0, [.tmp 0],
 (.seq (.q [(0, (.k (.b false)))])
 (.seq (.s [.bsl 10 3 1 [(.c (.i .i64 2))], .bld 11 [(.s []), (.i .i64 0), (.l [])] [(0, 1), (1, 1), (2, 1)] [(.c (.s [100, 101, 98, 116, 115])), (.c (.i .i64 (-1))), (.t 10)], .alo 1 [(.s []), (.i .i64 0), (.l [])], .sto 3 (.t 1) (.t 11)] [10, 11])
 (.seq (.d [.call (some 13) 34 [], .q 14 (.ld 3 true) [(.t 1)], .bsl 15 3 1 [(.c (.i .i64 1)), (.c (.i .i64 2))], .bld 16 [(.s []), (.i .i64 0), (.l [])] [(0, 1), (1, 1), (2, 1)] [(.c (.s [97, 108, 108])), (.c (.i .i64 1)), (.t 15)], .bsl 17 48 3 [(.t 14), (.t 16)], .call (some 18) 14 [(.t 13), (.t 17), (.c (.i .i64 6))], .mv 12 (.t 18), .ext 19 0 12, .ext 20 1 12, .as 2 (.t 19), .as 3 (.t 20)] [[], [], [], [2], [1, 3], [0, 4, 0], [5], [6], [6], [7, 5, 0, 1, 2, 3, 4, 5, 6, 7], [8, 9, 0, 1, 2, 3, 4, 5, 6, 7, 8, 9]] [13, 14, 15, 16, 17, 18, 12, 19, 20])
 (.seq (.d [.call (some 22) 34 [], .q 23 (.ld 3 true) [(.t 1)], .bsl 24 48 3 [(.t 23)], .call (some 25) 14 [(.t 22), (.t 24), (.c (.i .i64 5))], .mv 21 (.t 25), .ext 26 0 21, .ext 27 1 21, .as 4 (.t 26), .as 5 (.t 27)] [[], [], [1], [0, 2, 0], [3], [4], [4], [5, 3, 0, 1, 2, 3, 4, 5], [6, 7, 0, 1, 2, 3, 4, 5, 6, 7]] [22, 23, 24, 25, 21, 26, 27])
 (.seq (.d [.call (some 29) 34 [], .q 30 (.ld 3 true) [(.t 1)], .call (some 31) 17 [(.t 29), (.t 30), (.c (.s [69, 85, 82])), (.c (.i .i64 6))], .mv 28 (.t 31), .ext 32 0 28, .ext 33 1 28, .as 6 (.t 32), .as 7 (.t 33)] [[], [], [0, 1, 0], [2], [3], [3], [4, 2, 0, 1, 2, 3, 4], [5, 6, 0, 1, 2, 3, 4, 5, 6]] [29, 30, 31, 28, 32, 33])
 (.seq (.d [.call (some 35) 34 [], .q 36 (.ld 3 true) [(.t 1)], .call (some 37) 17 [(.t 35), (.t 36), (.c (.s [85, 83, 68])), (.c (.i .i64 6))], .mv 34 (.t 37), .ext 38 0 34, .ext 39 1 34, .as 8 (.t 38), .as 9 (.t 39)] [[], [], [0, 1, 0], [2], [3], [3], [4, 2, 0, 1, 2, 3, 4], [5, 6, 0, 1, 2, 3, 4, 5, 6]] [35, 36, 37, 34, 38, 39, 8])
 (.seq (.q [(0, (.ite (.ite (.ite (.ite (.ite (.ite (.ite (.ite (.ite (.ite (.ite (.ite (.op (.bin .eql) [(.sl 3), (.k (.i .i64 0))]) (.op (.call false 16) [(.sl 2), (.op (.bsl 3) [(.op (.bld [(.s []), (.s []), (.i .i64 0)] [(0, 1), (1, 1), (2, 1)]) [(.k (.s [100, 101, 98, 116, 115])), (.k (.s [69, 85, 82])), (.k (.i .i64 500))]), (.op (.bld [(.s []), (.s []), (.i .i64 0)] [(0, 1), (1, 1)]) [(.k (.s [97, 108, 108])), (.k (.s [69, 85, 82]))])])]) (.k (.b false))) (.op (.bin .eql) [(.sl 5), (.k (.i .i64 0))]) (.k (.b false))) (.op (.bin .eql) [(.op .len [(.sl 4)]), (.k (.i .i64 1))]) (.k (.b false))) (.op (.bin .eql) [(.op (.ld 1 false) [(.op (.fa 2 1) [(.op (.ix 3) [(.sl 4), (.k (.i .i64 0))])])]), (.k (.i .i64 0))]) (.k (.b false))) (.op (.bin .eql) [(.sl 7), (.k (.i .i64 0))]) (.k (.b false))) (.op (.call false 19) [(.sl 6), (.op (.bsl 1) [(.k (.i .i64 1))])]) (.k (.b false))) (.op (.bin .eql) [(.sl 9), (.k (.i .i64 14))]) (.k (.b false))) (.op (.bin .eql) [(.op (.call false 20) [(.op (.call false 34) []), (.op (.ld 3 true) [(.sl 1)]), (.k (.s [69, 85, 82])), (.k (.i .i64 1))]), (.k (.i .i64 500))]) (.k (.b false))) (.op (.bin .eql) [(.op (.call false 11) [(.op (.call false 34) []), (.k (.i .i64 1000))]), (.k (.i .i64 21))]) (.k (.b false))) (.op (.bin .eql) [(.op (.call false 11) [(.op (.call false 34) []), (.k (.i .i64 1001))]), (.k (.i .i64 0))]) (.k (.b false))) (.op (.bin .eql) [(.op (.call false 11) [(.op (.call false 34) []), (.k (.i .i64 11))]), (.k (.i .i64 11))]) (.k (.b false))) (.op (.bin .eql) [(.op (.call false 9) [(.op (.call false 34) []), (.op (.bsl 3) [(.op (.bld [(.s []), (.i .i64 0), (.l [])] [(0, 1), (1, 1), (2, 1)]) [(.k (.s [120])), (.k (.i .i64 1)), (.op (.bsl 1) [(.k (.i .i64 1)), (.k (.i .i64 11))])])])]), (.k (.i .i64 12))]) (.k (.b false))))])
 (.ret [0]))))))))⟩
theorem comp13 : compile Try.prog Try.f13 = some code13 := by kernel_rfl
theorem okf13 : okFn Try.prog 13 = true := by kernel_rfl
-- 15: corebank/corebankref49.Make
def body15_1 : C :=
 (.seq (.seq (.q [(30, (.op (.bin .lss) [(.sl 11), (.op .len [(.op (.ld 1 false) [(.op (.fa 0 1) [(.sl 3)])])])]))])
 (.cond (.sl 30) .skip (.exit 2 [1, 2, 3, 9, 10])))
 (.seq (.blk 3 (.seq (.q [(12, (.op (.ext 0) [(.op (.call true 37) [(.op (.ld 22 true) [(.sl 3)]), (.op (.ld 3 true) [(.op (.ix 3) [(.sl 1), (.sl 10)])]), (.op (.ld 1 false) [(.op (.fa 0 1) [(.op (.ix 2) [(.op (.ld 1 false) [(.op (.fa 0 1) [(.sl 3)])]), (.sl 11)])])]), (.sl 2)])])), (13, (.op (.ext 1) [(.op (.call true 37) [(.op (.ld 22 true) [(.sl 3)]), (.op (.ld 3 true) [(.op (.ix 3) [(.sl 1), (.sl 10)])]), (.op (.ld 1 false) [(.op (.fa 0 1) [(.op (.ix 2) [(.op (.ld 1 false) [(.op (.fa 0 1) [(.sl 3)])]), (.sl 11)])])]), (.sl 2)])]))])
 (.seq (.seq (.q [(50, (.op (.bin .neq) [(.sl 13), (.k (.i .i64 0))]))])
 (.cond (.sl 50) (.seq (.s [.mv 51 (.t 13), .as 6 (.c (.ow 58 [])), .as 7 (.t 51)] [51])
 (.ret [6, 7])) .skip))
 (.d [.mv 52 (.t 9), .mv 53 (.t 1), .mv 54 (.t 10), .ix 55 3 (.t 53) (.t 54), .fa 56 0 1 (.t 55), .q 57 (.ld 1 false) [(.t 56)], .fa 58 0 1 (.t 3), .q 59 (.ld 1 false) [(.t 58)], .mv 60 (.t 11), .ix 61 2 (.t 59) (.t 60), .fa 62 0 1 (.t 61), .q 63 (.ld 1 false) [(.t 62)], .mv 64 (.t 12), .bld 65 [(.s []), (.s []), (.i .i64 0)] [(0, 1), (1, 1), (2, 1)] [(.t 57), (.t 63), (.t 64)], .bsl 66 58 3 [(.t 65)], .app 67 58 3 40 (.t 52) (.t 66), .as 9 (.t 67)] [[], [], [], [1, 2], [3], [4], [], [6], [], [7, 8], [9], [10], [], [5, 11, 12], [13], [0, 14], [15, 15, 0, 1, 2, 3, 4, 5, 6, 7, 8, 9, 10, 11, 12, 13, 14, 15]] [52, 53, 54, 55, 56, 57, 58, 59, 60, 61, 62, 63, 64, 65, 66, 67]))))
 (.q [(11, (.op (.bin .add) [(.sl 11), (.k (.i .i64 1))]))])))
def body15_2 : C :=
 (.seq (.seq (.q [(23, (.op (.bin .lss) [(.sl 10), (.op .len [(.sl 1)])]))])
 (.cond (.sl 23) .skip (.exit 0 [9])))
 (.seq (.blk 1 (.seq (.q [(11, (.k (.i .i64 0)))])
 (.blk 2 (.loop [1, 2, 3, 9, 10, 11] body15_1))))
 (.q [(10, (.op (.bin .add) [(.sl 10), (.k (.i .i64 1))]))])))
def code15 : FCode := ⟨3, [.tmp 6, .tmp 7],
 (.seq (.s [.box 3 (.t 0), .as 6 (.c (.ow 58 [])), .as 7 (.c (.i .i64 0))] [])
 (.seq (.seq (.q [(8, (.op (.call false 10) [(.op (.ld 22 true) [(.sl 3)]), (.sl 1)]))])
 (.seq (.q [(18, (.op (.bin .neq) [(.sl 8), (.k (.i .i64 0))]))])
 (.cond (.sl 18) (.seq (.s [.mv 19 (.t 8), .as 6 (.c (.ow 58 [])), .as 7 (.t 19)] [19])
 (.ret [6, 7])) .skip)))
 (.seq (.s [.as 9 (.c (.ow 58 []))] [])
 (.seq (.seq (.q [(10, (.k (.i .i64 0)))])
 (.blk 0 (.loop [1, 2, 3, 9, 10] body15_2)))
 (.seq (.s [.mv 68 (.t 9), .as 6 (.t 68), .as 7 (.c (.i .i64 0))] [68])
 (.ret [6, 7]))))))⟩
theorem comp15 : compile Try.prog Try.f15 = some code15 := by kernel_rfl
theorem okf15 : okFn Try.prog 15 = true := by kernel_rfl
-- 16: corebank/corebankref49.SameCells
def body16_1 : C :=
 (.seq (.seq (.q [(14, (.op (.bin .lss) [(.sl 5), (.op .len [(.sl 0)])]))])
 (.cond (.sl 14) .skip (.exit 0 [])))
 (.seq (.blk 1 (.seq (.q [(25, (.op (.eqa true [2, 2, 1]) [(.op (.ld 3 true) [(.op (.ix 3) [(.sl 0), (.sl 5)])]), (.op (.ld 3 true) [(.op (.ix 3) [(.sl 1), (.sl 5)])])]))])
 (.cond (.sl 25) (.seq (.q [(4, (.k (.b false)))])
 (.ret [4])) .skip)))
 (.q [(5, (.op (.bin .add) [(.sl 5), (.k (.i .i64 1))]))])))
def code16 : FCode := ⟨2, [.tmp 4],
 (.seq (.q [(4, (.k (.b false)))])
 (.seq (.seq (.q [(10, (.op (.bin .neq) [(.op .len [(.sl 0)]), (.op .len [(.sl 1)])]))])
 (.cond (.sl 10) (.seq (.q [(4, (.k (.b false)))])
 (.ret [4])) .skip))
 (.seq (.seq (.q [(5, (.k (.i .i64 0)))])
 (.blk 0 (.loop [0, 1, 5] body16_1)))
 (.seq (.q [(4, (.k (.b true)))])
 (.ret [4])))))⟩
theorem comp16 : compile Try.prog Try.f16 = some code16 := by kernel_rfl
theorem okf16 : okFn Try.prog 16 = true := by kernel_rfl
-- 17: corebank/report.Drill
def body17_1 : C :=
 (.seq (.q [(36, (.op (.bin .lss) [(.sl 35), (.sl 34)]))])
 (.seq (.cond (.sl 36) .skip (.exit 0 [13]))
 (.seq (.blk 1 (.seq (.s [.ix 37 10 (.t 33) (.t 35), .q 38 (.ld 10 true) [(.t 37)], .alo 15 [(.i .i64 0), (.i .i64 0), (.i .i64 0), (.i .i64 0), (.i .i64 0), (.i .i64 0), (.s []), (.s []), (.l []), (.i .u64 0)], .sto 10 (.t 15) (.t 38)] [37, 38])
 (.seq (.g [.s (.fa 39 1 1 (.t 15)), .s (.q 40 (.ld 1 false) [(.t 39)]), .s (.mv 41 (.t 3)), .s (.q 42 (.bin .leq) [(.t 40), (.t 41)]), .s (.mv 43 (.t 42)), .gd 43 true (some 44) (.q 44 (.ld 22 true) [(.t 4)]), .gd 43 true (some 45) (.q 45 (.ld 3 true) [(.t 5)]), .gd 43 true (some 46) (.q 46 (.ld 10 true) [(.t 15)]), .gd 43 true (some 47) (.call (some 47) 35 [(.t 44), (.t 45), (.t 46)]), .gd 43 true (some 48) (.mv 48 (.t 2)), .gd 43 true (some 49) (.mget 49 1 (.i .i64 0) (.t 47) (.t 48)), .gd 43 true (some 50) (.q 50 (.bin .neq) [(.t 49), (.c (.i .i64 0))]), .pick 51 43 (.t 50) (.c (.b false))] [39, 40, 41, 42, 43, 44, 45, 46, 47, 48, 49, 50])
 (.cond (.sl 51) (.s [.mv 52 (.t 13), .fa 53 0 1 (.t 15), .q 54 (.ld 1 false) [(.t 53)], .bsl 55 3 1 [(.t 54)], .app 56 3 1 8 (.t 52) (.t 55), .as 13 (.t 56)] [52, 53, 54, 55, 56]) .skip))))
 (.q [(35, (.op (.bin .add) [(.sl 35), (.k (.i .i64 1))]))]))))
def code17 : FCode := ⟨4, [.tmp 8, .tmp 9],
 (.seq (.s [.box 4 (.t 0), .box 5 (.t 1), .as 8 (.c (.ow 3 [])), .as 9 (.c (.i .i64 0))] [])
 (.seq (.seq (.q [(10, (.op (.call false 9) [(.op (.ld 22 true) [(.sl 4)]), (.op (.bsl 3) [(.op (.ld 3 true) [(.sl 5)])])]))])
 (.seq (.q [(21, (.op (.bin .neq) [(.sl 10), (.k (.i .i64 0))]))])
 (.cond (.sl 21) (.seq (.s [.mv 22 (.t 10), .as 8 (.c (.ow 3 [])), .as 9 (.t 22)] [22])
 (.ret [8, 9])) .skip)))
 (.seq (.seq (.s [.fa 24 0 1 (.t 4), .q 25 (.ld 1 false) [(.t 24)], .mv 26 (.t 2), .call (some 27) 38 [(.t 25), (.t 26)], .mv 23 (.t 27), .ext 28 0 23, .ext 29 1 23, .alo 11 [(.s []), (.i .i64 0)], .sto 2 (.t 11) (.t 28), .as 12 (.t 29)] [24, 25, 26, 27, 23, 28, 29, 11])
 (.seq (.q [(31, (.op (.un .not) [(.sl 12)]))])
 (.cond (.sl 31) (.seq (.s [.as 8 (.c (.ow 3 [])), .as 9 (.c (.i .i64 14))] [])
 (.ret [8, 9])) .skip)))
 (.seq (.s [.as 13 (.c (.ow 3 []))] [])
 (.seq (.seq (.s [.fa 32 19 1 (.t 4), .q 33 (.ld 1 false) [(.t 32)], .q 34 .len [(.t 33)], .mv 35 (.c (.i .i64 0))] [32])
 (.blk 0 (.loop [2, 3, 4, 5, 13, 33, 34, 35] body17_1)))
 (.seq (.s [.mv 58 (.t 13), .as 8 (.t 58), .as 9 (.c (.i .i64 0))] [58])
 (.ret [8, 9])))))))⟩
theorem comp17 : compile Try.prog Try.f17 = some code17 := by kernel_rfl
theorem okf17 : okFn Try.prog 17 = true := by kernel_rfl
-- 18: corebank/corebankref49.Drill
def body18_1 : C :=
 (.seq (.seq (.q [(35, (.op (.bin .lss) [(.sl 14), (.op .len [(.op (.ld 1 false) [(.op (.fa 19 1) [(.sl 4)])])])]))])
 (.cond (.sl 35) .skip (.exit 0 [13])))
 (.seq (.blk 1 (.seq (.q [(57, (.ite (.op (.bin .leq) [(.op (.ld 1 false) [(.op (.fa 1 1) [(.op (.ix 10) [(.op (.ld 1 false) [(.op (.fa 19 1) [(.sl 4)])]), (.sl 14)])])]), (.sl 3)]) (.op (.bin .neq) [(.op (.call true 40) [(.op (.ld 22 true) [(.sl 4)]), (.op (.ld 3 true) [(.sl 5)]), (.sl 2), (.op (.ld 10 true) [(.op (.ix 10) [(.op (.ld 1 false) [(.op (.fa 19 1) [(.sl 4)])]), (.sl 14)])])]), (.k (.i .i64 0))]) (.k (.b false))))])
 (.cond (.sl 57) (.s [.mv 58 (.t 13), .fa 59 19 1 (.t 4), .q 60 (.ld 1 false) [(.t 59)], .mv 61 (.t 14), .ix 62 10 (.t 60) (.t 61), .fa 63 0 1 (.t 62), .q 64 (.ld 1 false) [(.t 63)], .bsl 65 3 1 [(.t 64)], .app 66 3 1 8 (.t 58) (.t 65), .as 13 (.t 66)] [58, 59, 60, 61, 62, 63, 64, 65, 66]) .skip)))
 (.q [(14, (.op (.bin .add) [(.sl 14), (.k (.i .i64 1))]))])))
def code18 : FCode := ⟨4, [.tmp 8, .tmp 9],
 (.seq (.s [.box 4 (.t 0), .box 5 (.t 1), .as 8 (.c (.ow 3 [])), .as 9 (.c (.i .i64 0))] [])
 (.seq (.seq (.q [(10, (.op (.call false 10) [(.op (.ld 22 true) [(.sl 4)]), (.op (.bsl 3) [(.op (.ld 3 true) [(.sl 5)])])]))])
 (.seq (.q [(20, (.op (.bin .neq) [(.sl 10), (.k (.i .i64 0))]))])
 (.cond (.sl 20) (.seq (.s [.mv 21 (.t 10), .as 8 (.c (.ow 3 [])), .as 9 (.t 21)] [21])
 (.ret [8, 9])) .skip)))
 (.seq (.seq (.s [.fa 23 0 1 (.t 4), .q 24 (.ld 1 false) [(.t 23)], .mv 25 (.t 2), .call (some 26) 39 [(.t 24), (.t 25)], .mv 22 (.t 26), .ext 27 0 22, .ext 28 1 22, .alo 11 [(.s []), (.i .i64 0)], .sto 2 (.t 11) (.t 27), .as 12 (.t 28)] [23, 24, 25, 26, 22, 27, 28, 11])
 (.seq (.q [(30, (.op (.un .not) [(.sl 12)]))])
 (.cond (.sl 30) (.seq (.s [.as 8 (.c (.ow 3 [])), .as 9 (.c (.i .i64 14))] [])
 (.ret [8, 9])) .skip)))
 (.seq (.s [.as 13 (.c (.ow 3 []))] [])
 (.seq (.seq (.q [(14, (.k (.i .i64 0)))])
 (.blk 0 (.loop [2, 3, 4, 5, 13, 14] body18_1)))
 (.seq (.s [.mv 67 (.t 13), .as 8 (.t 67), .as 9 (.c (.i .i64 0))] [67])
 (.ret [8, 9])))))))⟩
theorem comp18 : compile Try.prog Try.f18 = some code18 := by kernel_rfl
theorem okf18 : okFn Try.prog 18 = true := by kernel_rfl
-- 19: corebank/corebankref07.SameInts
def body19_1 : C :=
 (.seq (.seq (.q [(14, (.op (.bin .lss) [(.sl 5), (.op .len [(.sl 0)])]))])
 (.cond (.sl 14) .skip (.exit 0 [])))
 (.seq (.blk 1 (.seq (.q [(25, (.op (.bin .neq) [(.op (.ld 1 false) [(.op (.ix 1) [(.sl 0), (.sl 5)])]), (.op (.ld 1 false) [(.op (.ix 1) [(.sl 1), (.sl 5)])])]))])
 (.cond (.sl 25) (.seq (.q [(4, (.k (.b false)))])
 (.ret [4])) .skip)))
 (.q [(5, (.op (.bin .add) [(.sl 5), (.k (.i .i64 1))]))])))
def code19 : FCode := ⟨2, [.tmp 4],
 (.seq (.q [(4, (.k (.b false)))])
 (.seq (.seq (.q [(10, (.op (.bin .neq) [(.op .len [(.sl 0)]), (.op .len [(.sl 1)])]))])
 (.cond (.sl 10) (.seq (.q [(4, (.k (.b false)))])
 (.ret [4])) .skip))
 (.seq (.seq (.q [(5, (.k (.i .i64 0)))])
 (.blk 0 (.loop [0, 1, 5] body19_1)))
 (.seq (.q [(4, (.k (.b true)))])
 (.ret [4])))))⟩
theorem comp19 : compile Try.prog Try.f19 = some code19 := by kernel_rfl
theorem okf19 : okFn Try.prog 19 = true := by kernel_rfl
-- 20: corebank/report.Amount
def body20_1 : C :=
 (.seq (.q [(20, (.op (.bin .lss) [(.sl 19), (.sl 18)]))])
 (.seq (.cond (.sl 20) .skip (.exit 0 []))
 (.seq (.blk 1 (.seq (.s [.ix 21 10 (.t 17) (.t 19), .q 22 (.ld 10 true) [(.t 21)], .alo 10 [(.i .i64 0), (.i .i64 0), (.i .i64 0), (.i .i64 0), (.i .i64 0), (.i .i64 0), (.s []), (.s []), (.l []), (.i .u64 0)], .sto 10 (.t 10) (.t 22)] [21, 22])
 (.seq (.q [(26, (.op (.bin .eql) [(.op (.ld 1 false) [(.op (.fa 0 1) [(.sl 10)])]), (.sl 3)]))])
 (.cond (.sl 26) (.seq (.s [.q 27 (.ld 22 true) [(.t 4)], .q 28 (.ld 3 true) [(.t 5)], .q 29 (.ld 10 true) [(.t 10)], .call (some 30) 35 [(.t 27), (.t 28), (.t 29)], .mv 31 (.t 2), .mget 32 1 (.i .i64 0) (.t 30) (.t 31), .as 8 (.t 32)] [27, 28, 29, 30, 31, 32])
 (.ret [8])) .skip))))
 (.q [(19, (.op (.bin .add) [(.sl 19), (.k (.i .i64 1))]))]))))
def code20 : FCode := ⟨4, [.tmp 8],
 (.seq (.s [.box 4 (.t 0), .box 5 (.t 1), .as 8 (.c (.i .i64 0))] [])
 (.seq (.seq (.q [(15, (.op (.bin .neq) [(.op (.call false 9) [(.op (.ld 22 true) [(.sl 4)]), (.op (.bsl 3) [(.op (.ld 3 true) [(.sl 5)])])]), (.k (.i .i64 0))]))])
 (.cond (.sl 15) (.seq (.q [(8, (.k (.i .i64 0)))])
 (.ret [8])) .skip))
 (.seq (.seq (.s [.fa 16 19 1 (.t 4), .q 17 (.ld 1 false) [(.t 16)], .q 18 .len [(.t 17)], .mv 19 (.c (.i .i64 0))] [16])
 (.blk 0 (.loop [2, 3, 4, 5, 17, 18, 19] body20_1)))
 (.seq (.q [(8, (.k (.i .i64 0)))])
 (.ret [8])))))⟩
theorem comp20 : compile Try.prog Try.f20 = some code20 := by kernel_rfl
theorem okf20 : okFn Try.prog 20 = true := by kernel_rfl
-- 21: corebank/corebankref49.Amount
def body21_1 : C :=
 (.seq (.seq (.q [(19, (.op (.bin .lss) [(.sl 9), (.op .len [(.op (.ld 1 false) [(.op (.fa 19 1) [(.sl 4)])])])]))])
 (.cond (.sl 19) .skip (.exit 0 [])))
 (.seq (.blk 1 (.seq (.q [(29, (.op (.bin .eql) [(.op (.ld 1 false) [(.op (.fa 0 1) [(.op (.ix 10) [(.op (.ld 1 false) [(.op (.fa 19 1) [(.sl 4)])]), (.sl 9)])])]), (.sl 3)]))])
 (.cond (.sl 29) (.seq (.q [(8, (.op (.call true 40) [(.op (.ld 22 true) [(.sl 4)]), (.op (.ld 3 true) [(.sl 5)]), (.sl 2), (.op (.ld 10 true) [(.op (.ix 10) [(.op (.ld 1 false) [(.op (.fa 19 1) [(.sl 4)])]), (.sl 9)])])]))])
 (.ret [8])) .skip)))
 (.q [(9, (.op (.bin .add) [(.sl 9), (.k (.i .i64 1))]))])))
def code21 : FCode := ⟨4, [.tmp 8],
 (.seq (.s [.box 4 (.t 0), .box 5 (.t 1), .as 8 (.c (.i .i64 0))] [])
 (.seq (.seq (.q [(14, (.op (.bin .neq) [(.op (.call false 10) [(.op (.ld 22 true) [(.sl 4)]), (.op (.bsl 3) [(.op (.ld 3 true) [(.sl 5)])])]), (.k (.i .i64 0))]))])
 (.cond (.sl 14) (.seq (.q [(8, (.k (.i .i64 0)))])
 (.ret [8])) .skip))
 (.seq (.seq (.q [(9, (.k (.i .i64 0)))])
 (.blk 0 (.loop [2, 3, 4, 5, 9] body21_1)))
 (.seq (.q [(8, (.k (.i .i64 0)))])
 (.ret [8])))))⟩
theorem comp21 : compile Try.prog Try.f21 = some code21 := by kernel_rfl
theorem okf21 : okFn Try.prog 21 = true := by kernel_rfl
-- 22: corebank/corebanklaw49.different
def body22_1 : C :=
 (.seq (.seq (.q [(13, (.op (.bin .lss) [(.sl 4), (.sl 3)]))])
 (.cond (.sl 13) .skip (.exit 2 [0, 3])))
 (.seq (.blk 3 (.seq (.q [(26, (.op (.bin .eql) [(.op (.ld 1 false) [(.op (.fa 0 1) [(.op (.ix 10) [(.sl 0), (.sl 3)])])]), (.op (.ld 1 false) [(.op (.fa 0 1) [(.op (.ix 10) [(.sl 0), (.sl 4)])])])]))])
 (.cond (.sl 26) (.seq (.q [(2, (.k (.b false)))])
 (.ret [2])) .skip)))
 (.q [(4, (.op (.bin .add) [(.sl 4), (.k (.i .i64 1))]))])))
def body22_2 : C :=
 (.seq (.seq (.q [(8, (.op (.bin .lss) [(.sl 3), (.op .len [(.sl 0)])]))])
 (.cond (.sl 8) .skip (.exit 0 [])))
 (.seq (.blk 1 (.seq (.q [(4, (.k (.i .i64 0)))])
 (.blk 2 (.loop [0, 3, 4] body22_1))))
 (.q [(3, (.op (.bin .add) [(.sl 3), (.k (.i .i64 1))]))])))
def code22 : FCode := ⟨1, [.tmp 2],
 (.seq (.q [(2, (.k (.b false)))])
 (.seq (.seq (.q [(3, (.k (.i .i64 0)))])
 (.blk 0 (.loop [0, 3] body22_2)))
 (.seq (.q [(2, (.k (.b true)))])
 (.ret [2]))))⟩
theorem comp22 : compile Try.prog Try.f22 = some code22 := by kernel_rfl
theorem okf22 : okFn Try.prog 22 = true := by kernel_rfl
-- 23: corebank/corebankref22.Great
def body23_1 : C :=
 (.seq (.seq (.q [(10, (.op (.bin .lss) [(.sl 3), (.op .len [(.sl 0)])]))])
 (.cond (.sl 10) .skip (.exit 0 [])))
 (.seq (.blk 1 (.seq (.q [(19, (.op (.bin .gtr) [(.op .slen [(.op (.ld 1 false) [(.op (.fa 5 1) [(.op (.ix 6) [(.sl 0), (.sl 3)])])])]), (.k (.i .i64 200))]))])
 (.cond (.sl 19) (.seq (.q [(2, (.k (.b true)))])
 (.ret [2])) .skip)))
 (.q [(3, (.op (.bin .add) [(.sl 3), (.k (.i .i64 1))]))])))
def code23 : FCode := ⟨1, [.tmp 2],
 (.seq (.q [(2, (.k (.b false)))])
 (.seq (.seq (.q [(6, (.op (.bin .gtr) [(.op .len [(.sl 0)]), (.k (.i .i64 100))]))])
 (.cond (.sl 6) (.seq (.q [(2, (.k (.b true)))])
 (.ret [2])) .skip))
 (.seq (.seq (.q [(3, (.k (.i .i64 0)))])
 (.blk 0 (.loop [0, 3] body23_1)))
 (.seq (.q [(2, (.k (.b false)))])
 (.ret [2])))))⟩
theorem comp23 : compile Try.prog Try.f23 = some code23 := by kernel_rfl
theorem okf23 : okFn Try.prog 23 = true := by kernel_rfl
-- 24: corebank/corebankref16.Great
def body24_1 : C :=
 (.seq (.seq (.q [(51, (.op (.bin .lss) [(.sl 3), (.op .len [(.op (.ld 1 false) [(.op (.fa 17 1) [(.sl 1)])])])]))])
 (.cond (.sl 51) .skip (.exit 0 [1])))
 (.seq (.blk 1 (.seq (.q [(79, (.ite (.ite (.op (.bin .gtr) [(.op .slen [(.op (.ld 1 false) [(.op (.fa 0 1) [(.op (.ix 10) [(.op (.ld 1 false) [(.op (.fa 17 1) [(.sl 1)])]), (.sl 3)])])])]), (.k (.i .i64 100))]) (.k (.b true)) (.op (.call false 41) [(.op (.ld 4 true) [(.op (.fa 2 4) [(.op (.ix 10) [(.op (.ld 1 false) [(.op (.fa 17 1) [(.sl 1)])]), (.sl 3)])])]), (.k (.i .i64 100))])) (.k (.b true)) (.op (.call false 41) [(.op (.ld 4 true) [(.op (.fa 6 4) [(.op (.ix 10) [(.op (.ld 1 false) [(.op (.fa 17 1) [(.sl 1)])]), (.sl 3)])])]), (.k (.i .i64 100))])))])
 (.cond (.sl 79) (.seq (.q [(2, (.k (.b true)))])
 (.ret [2])) .skip)))
 (.q [(3, (.op (.bin .add) [(.sl 3), (.k (.i .i64 1))]))])))
def body24_2 : C :=
 (.seq (.seq (.q [(84, (.op (.bin .lss) [(.sl 4), (.op .len [(.op (.ld 1 false) [(.op (.fa 18 1) [(.sl 1)])])])]))])
 (.cond (.sl 84) .skip (.exit 2 [])))
 (.seq (.blk 3 (.seq (.q [(103, (.ite (.op (.bin .gtr) [(.op .slen [(.op (.ld 1 false) [(.op (.fa 0 1) [(.op (.ix 6) [(.op (.ld 1 false) [(.op (.fa 18 1) [(.sl 1)])]), (.sl 4)])])])]), (.k (.i .i64 100))]) (.k (.b true)) (.op (.call false 41) [(.op (.ld 4 true) [(.op (.fa 2 4) [(.op (.ix 6) [(.op (.ld 1 false) [(.op (.fa 18 1) [(.sl 1)])]), (.sl 4)])])]), (.k (.i .i64 100))])))])
 (.cond (.sl 103) (.seq (.q [(2, (.k (.b true)))])
 (.ret [2])) .skip)))
 (.q [(4, (.op (.bin .add) [(.sl 4), (.k (.i .i64 1))]))])))
def code24 : FCode := ⟨1, [.tmp 2],
 (.seq (.s [.box 1 (.t 0), .as 2 (.c (.b false))] [])
 (.seq (.seq (.q [(46, (.ite (.ite (.ite (.ite (.ite (.ite (.op (.bin .gtr) [(.op .slen [(.op (.ld 1 false) [(.op (.fa 0 1) [(.sl 1)])])]), (.k (.i .i64 100))]) (.k (.b true)) (.op (.bin .gtr) [(.op .slen [(.op (.ld 1 false) [(.op (.fa 1 1) [(.sl 1)])])]), (.k (.i .i64 100))])) (.k (.b true)) (.op (.bin .gtr) [(.op .slen [(.op (.ld 1 false) [(.op (.fa 2 1) [(.sl 1)])])]), (.k (.i .i64 100))])) (.k (.b true)) (.op (.bin .gtr) [(.op .len [(.op (.ld 1 false) [(.op (.fa 0 1) [(.op (.fa 7 5) [(.sl 1)])])])]), (.k (.i .i64 20))])) (.k (.b true)) (.op (.bin .gtr) [(.op .len [(.op (.ld 1 false) [(.op (.fa 0 1) [(.op (.fa 12 5) [(.sl 1)])])])]), (.k (.i .i64 20))])) (.k (.b true)) (.op (.bin .gtr) [(.op .len [(.op (.ld 1 false) [(.op (.fa 17 1) [(.sl 1)])])]), (.k (.i .i64 10))])) (.k (.b true)) (.op (.bin .gtr) [(.op .len [(.op (.ld 1 false) [(.op (.fa 18 1) [(.sl 1)])])]), (.k (.i .i64 10))])))])
 (.cond (.sl 46) (.seq (.q [(2, (.k (.b true)))])
 (.ret [2])) .skip))
 (.seq (.seq (.q [(3, (.k (.i .i64 0)))])
 (.blk 0 (.loop [1, 3] body24_1)))
 (.seq (.seq (.q [(4, (.k (.i .i64 0)))])
 (.blk 2 (.loop [1, 4] body24_2)))
 (.seq (.q [(2, (.k (.b false)))])
 (.ret [2]))))))⟩
theorem comp24 : compile Try.prog Try.f24 = some code24 := by kernel_rfl
theorem okf24 : okFn Try.prog 24 = true := by kernel_rfl
-- 25: corebank/corebankref19.Great
def body25_1 : C :=
 (.seq (.seq (.q [(24, (.op (.bin .lss) [(.sl 3), (.op .len [(.op (.ld 1 false) [(.op (.fa 8 1) [(.sl 1)])])])]))])
 (.cond (.sl 24) .skip (.exit 0 [])))
 (.seq (.blk 1 (.seq (.q [(34, (.op (.bin .gtr) [(.op .slen [(.op (.ld 1 false) [(.op (.fa 2 1) [(.op (.ix 3) [(.op (.ld 1 false) [(.op (.fa 8 1) [(.sl 1)])]), (.sl 3)])])])]), (.k (.i .i64 100))]))])
 (.cond (.sl 34) (.seq (.q [(2, (.k (.b true)))])
 (.ret [2])) .skip)))
 (.q [(3, (.op (.bin .add) [(.sl 3), (.k (.i .i64 1))]))])))
def code25 : FCode := ⟨1, [.tmp 2],
 (.seq (.s [.box 1 (.t 0), .as 2 (.c (.b false))] [])
 (.seq (.seq (.q [(19, (.ite (.ite (.op (.bin .gtr) [(.op .len [(.op (.ld 1 false) [(.op (.fa 8 1) [(.sl 1)])])]), (.k (.i .i64 30))]) (.k (.b true)) (.op (.bin .gtr) [(.op .slen [(.op (.ld 1 false) [(.op (.fa 6 1) [(.sl 1)])])]), (.k (.i .i64 1000))])) (.k (.b true)) (.op (.bin .gtr) [(.op .slen [(.op (.ld 1 false) [(.op (.fa 7 1) [(.sl 1)])])]), (.k (.i .i64 1000))])))])
 (.cond (.sl 19) (.seq (.q [(2, (.k (.b true)))])
 (.ret [2])) .skip))
 (.seq (.seq (.q [(3, (.k (.i .i64 0)))])
 (.blk 0 (.loop [1, 3] body25_1)))
 (.seq (.q [(2, (.k (.b false)))])
 (.ret [2])))))⟩
theorem comp25 : compile Try.prog Try.f25 = some code25 := by kernel_rfl
theorem okf25 : okFn Try.prog 25 = true := by kernel_rfl
-- 26: corebank/report.name
def body26_1 : C :=
 (.seq (.q [(9, (.op (.bin .lss) [(.sl 8), (.sl 7)]))])
 (.seq (.cond (.sl 9) .skip (.exit 0 [0]))
 (.seq (.blk 1 (.seq (.q [(3, (.sl 8))])
 (.seq (.q [(4, (.op .idx [(.sl 0), (.sl 3)]))])
 (.seq (.q [(5, (.ite (.op (.bin .geq) [(.sl 4), (.k (.i .u8 97))]) (.op (.bin .leq) [(.sl 4), (.k (.i .u8 122))]) (.k (.b false))))])
 (.seq (.q [(37, (.ite (.op (.un .not) [(.sl 5)]) (.ite (.op (.bin .eql) [(.sl 3), (.k (.i .i64 0))]) (.k (.b true)) (.ite (.op (.bin .neq) [(.sl 4), (.k (.i .u8 95))]) (.ite (.op (.bin .lss) [(.sl 4), (.k (.i .u8 48))]) (.k (.b true)) (.op (.bin .gtr) [(.sl 4), (.k (.i .u8 57))])) (.k (.b false)))) (.k (.b false))))])
 (.cond (.sl 37) (.seq (.q [(2, (.k (.b false)))])
 (.ret [2])) .skip))))))
 (.q [(8, (.op (.bin .add) [(.sl 8), (.k (.i .i64 1))]))]))))
def code26 : FCode := ⟨1, [.tmp 2],
 (.seq (.q [(2, (.k (.b false)))])
 (.seq (.seq (.q [(7, (.op .slen [(.sl 0)])), (8, (.k (.i .i64 0)))])
 (.blk 0 (.loop [0, 7, 8] body26_1)))
 (.seq (.q [(2, (.ite (.op (.bin .geq) [(.op .slen [(.sl 0)]), (.k (.i .i64 1))]) (.op (.bin .leq) [(.op .slen [(.sl 0)]), (.k (.i .i64 16))]) (.k (.b false))))])
 (.ret [2]))))⟩
theorem comp26 : compile Try.prog Try.f26 = some code26 := by kernel_rfl
theorem okf26 : okFn Try.prog 26 = true := by kernel_rfl
-- 27: corebank/report.roots
def body27_1 : C :=
 (.seq (.q [(32, (.op (.bin .lss) [(.sl 31), (.sl 30)]))])
 (.seq (.cond (.sl 32) .skip (.exit 2 [1, 2, 11, 12, 13]))
 (.seq (.blk 3 (.seq (.q [(10, (.op (.ld 1 false) [(.op (.ix 1) [(.sl 29), (.sl 31)])]))])
 (.seq (.q [(46, (.ite (.op (.call false 42) [(.op (.ld 1 false) [(.op (.fa 2 1) [(.sl 2)])]), (.sl 6), (.sl 10)]) (.k (.b true)) (.op (.call false 42) [(.op (.ld 1 false) [(.op (.fa 2 1) [(.sl 2)])]), (.sl 10), (.sl 6)])))])
 (.cond (.sl 46) (.seq (.q [(4, (.k (.i .i64 12)))])
 (.ret [4])) .skip))))
 (.q [(31, (.op (.bin .add) [(.sl 31), (.k (.i .i64 1))]))]))))
def body27_2 : C :=
 (.seq (.q [(14, (.op (.bin .lss) [(.sl 13), (.sl 12)]))])
 (.seq (.cond (.sl 14) .skip (.exit 0 []))
 (.seq (.blk 1 (.seq (.q [(5, (.sl 13)), (6, (.op (.ld 1 false) [(.op (.ix 1) [(.sl 11), (.sl 13)])]))])
 (.seq (.seq (.s [.fa 19 2 1 (.t 2), .q 20 (.ld 1 false) [(.t 19)], .mv 21 (.t 6), .call (some 22) 30 [(.t 20), (.t 21)], .mv 18 (.t 22), .ext 23 0 18, .ext 24 1 18, .alo 7 [(.i .i64 0), (.i .i64 0), (.i .i64 0), (.s [])], .sto 4 (.t 7) (.t 23), .as 8 (.t 24)] [19, 20, 21, 22, 18, 23, 24, 7])
 (.seq (.q [(26, (.op (.un .not) [(.sl 8)]))])
 (.cond (.sl 26) (.seq (.q [(4, (.k (.i .i64 11)))])
 (.ret [4])) .skip)))
 (.seq (.s [.mv 27 (.t 1), .mv 28 (.t 5), .slc 29 1 false true [(.t 27), (.t 28)], .q 30 .len [(.t 29)], .mv 31 (.c (.i .i64 0))] [27, 28])
 (.blk 2 (.loop [1, 2, 6, 11, 12, 13, 29, 30, 31] body27_1))))))
 (.q [(13, (.op (.bin .add) [(.sl 13), (.k (.i .i64 1))]))]))))
def code27 : FCode := ⟨2, [.tmp 4],
 (.seq (.s [.box 2 (.t 0), .as 4 (.c (.i .i64 0))] [])
 (.seq (.seq (.s [.mv 11 (.t 1), .q 12 .len [(.t 11)], .mv 13 (.c (.i .i64 0))] [])
 (.blk 0 (.loop [1, 2, 11, 12, 13] body27_2)))
 (.seq (.q [(4, (.k (.i .i64 0)))])
 (.ret [4]))))⟩
theorem comp27 : compile Try.prog Try.f27 = some code27 := by kernel_rfl
theorem okf27 : okFn Try.prog 27 = true := by kernel_rfl
-- 28: corebank/corebankref07.Name
def body28_1 : C :=
 (.seq (.seq (.q [(25, (.op (.bin .lss) [(.sl 3), (.op .slen [(.sl 0)])]))])
 (.cond (.sl 25) .skip (.exit 0 [])))
 (.seq (.blk 1 (.seq (.q [(55, (.ite (.ite (.ite (.op (.bin .lss) [(.op .idx [(.sl 0), (.sl 3)]), (.k (.i .u8 97))]) (.k (.b true)) (.op (.bin .gtr) [(.op .idx [(.sl 0), (.sl 3)]), (.k (.i .u8 122))])) (.ite (.op (.bin .lss) [(.op .idx [(.sl 0), (.sl 3)]), (.k (.i .u8 48))]) (.k (.b true)) (.op (.bin .gtr) [(.op .idx [(.sl 0), (.sl 3)]), (.k (.i .u8 57))])) (.k (.b false))) (.op (.bin .neq) [(.op .idx [(.sl 0), (.sl 3)]), (.k (.i .u8 95))]) (.k (.b false))))])
 (.cond (.sl 55) (.seq (.q [(2, (.k (.b false)))])
 (.ret [2])) .skip)))
 (.q [(3, (.op (.bin .add) [(.sl 3), (.k (.i .i64 1))]))])))
def code28 : FCode := ⟨1, [.tmp 2],
 (.seq (.q [(2, (.k (.b false)))])
 (.seq (.seq (.q [(21, (.ite (.ite (.ite (.op (.bin .lss) [(.op .slen [(.sl 0)]), (.k (.i .i64 1))]) (.k (.b true)) (.op (.bin .gtr) [(.op .slen [(.sl 0)]), (.k (.i .i64 16))])) (.k (.b true)) (.op (.bin .lss) [(.op .idx [(.sl 0), (.k (.i .i64 0))]), (.k (.i .u8 97))])) (.k (.b true)) (.op (.bin .gtr) [(.op .idx [(.sl 0), (.k (.i .i64 0))]), (.k (.i .u8 122))])))])
 (.cond (.sl 21) (.seq (.q [(2, (.k (.b false)))])
 (.ret [2])) .skip))
 (.seq (.seq (.q [(3, (.k (.i .i64 0)))])
 (.blk 0 (.loop [0, 3] body28_1)))
 (.seq (.q [(2, (.k (.b true)))])
 (.ret [2])))))⟩
theorem comp28 : compile Try.prog Try.f28 = some code28 := by kernel_rfl
theorem okf28 : okFn Try.prog 28 = true := by kernel_rfl
-- 29: corebank/corebankref49.roots
def body29_1 : C :=
 (.seq (.seq (.q [(29, (.op (.bin .lss) [(.sl 8), (.sl 5)]))])
 (.cond (.sl 29) .skip (.exit 2 [1, 2, 5])))
 (.seq (.blk 3 (.seq (.q [(55, (.ite (.op (.call true 43) [(.op (.ld 1 false) [(.op (.fa 2 1) [(.sl 2)])]), (.op (.ld 1 false) [(.op (.ix 1) [(.sl 1), (.sl 5)])]), (.op (.ld 1 false) [(.op (.ix 1) [(.sl 1), (.sl 8)])])]) (.k (.b true)) (.op (.call true 43) [(.op (.ld 1 false) [(.op (.fa 2 1) [(.sl 2)])]), (.op (.ld 1 false) [(.op (.ix 1) [(.sl 1), (.sl 8)])]), (.op (.ld 1 false) [(.op (.ix 1) [(.sl 1), (.sl 5)])])])))])
 (.cond (.sl 55) (.seq (.q [(4, (.k (.i .i64 12)))])
 (.ret [4])) .skip)))
 (.q [(8, (.op (.bin .add) [(.sl 8), (.k (.i .i64 1))]))])))
def body29_2 : C :=
 (.seq (.seq (.q [(12, (.op (.bin .lss) [(.sl 5), (.op .len [(.sl 1)])]))])
 (.cond (.sl 12) .skip (.exit 0 [])))
 (.seq (.blk 1 (.seq (.seq (.d [.fa 16 2 1 (.t 2), .q 17 (.ld 1 false) [(.t 16)], .mv 18 (.t 1), .mv 19 (.t 5), .ix 20 1 (.t 18) (.t 19), .q 21 (.ld 1 false) [(.t 20)], .call (some 22) 32 [(.t 17), (.t 21)], .mv 15 (.t 22), .ext 23 0 15, .ext 24 1 15, .alo 6 [(.i .i64 0), (.i .i64 0), (.i .i64 0), (.s [])], .sto 4 (.t 6) (.t 23), .as 7 (.t 24)] [[], [0], [], [], [2, 3], [4], [1, 5], [6], [7], [7], [], [10, 8, 6, 0, 1, 2, 3, 4, 5, 6, 7, 8, 10], [9, 11, 0, 1, 2, 3, 4, 5, 6, 7, 8, 9, 10, 11]] [16, 17, 18, 19, 20, 21, 22, 15, 23, 24, 6])
 (.seq (.q [(26, (.op (.un .not) [(.sl 7)]))])
 (.cond (.sl 26) (.seq (.q [(4, (.k (.i .i64 11)))])
 (.ret [4])) .skip)))
 (.seq (.q [(8, (.k (.i .i64 0)))])
 (.blk 2 (.loop [1, 2, 5, 8] body29_1)))))
 (.q [(5, (.op (.bin .add) [(.sl 5), (.k (.i .i64 1))]))])))
def code29 : FCode := ⟨2, [.tmp 4],
 (.seq (.s [.box 2 (.t 0), .as 4 (.c (.i .i64 0))] [])
 (.seq (.seq (.q [(5, (.k (.i .i64 0)))])
 (.blk 0 (.loop [1, 2, 5] body29_2)))
 (.seq (.q [(4, (.k (.i .i64 0)))])
 (.ret [4]))))⟩
theorem comp29 : compile Try.prog Try.f29 = some code29 := by kernel_rfl
theorem okf29 : okFn Try.prog 29 = true := by kernel_rfl
-- 30: corebank/chart.Find
def body30_1 : C :=
 (.seq (.q [(11, (.op (.bin .lss) [(.sl 10), (.sl 9)]))])
 (.seq (.cond (.sl 11) .skip (.exit 0 [4]))
 (.seq (.blk 1 (.seq (.s [.ix 12 4 (.t 8) (.t 10), .q 13 (.ld 4 true) [(.t 12)], .alo 7 [(.i .i64 0), (.i .i64 0), (.i .i64 0), (.s [])], .sto 4 (.t 7) (.t 13)] [12, 13])
 (.seq (.q [(17, (.op (.bin .eql) [(.op (.ld 1 false) [(.op (.fa 0 1) [(.sl 7)])]), (.sl 1)]))])
 (.cond (.sl 17) (.seq (.s [.q 18 (.ld 4 true) [(.t 7)], .sto 4 (.t 4) (.t 18), .as 5 (.c (.b true))] [18])
 (.ret [4, 5])) .skip))))
 (.q [(10, (.op (.bin .add) [(.sl 10), (.k (.i .i64 1))]))]))))
def code30 : FCode := ⟨2, [.cell 4 4 true, .tmp 5],
 (.seq (.s [.alo 4 [(.i .i64 0), (.i .i64 0), (.i .i64 0), (.s [])], .as 5 (.c (.b false))] [])
 (.seq (.seq (.s [.mv 8 (.t 0), .q 9 .len [(.t 8)], .mv 10 (.c (.i .i64 0))] [])
 (.blk 0 (.loop [1, 4, 8, 9, 10] body30_1)))
 (.seq (.s [.bld 20 [(.i .i64 0), (.i .i64 0), (.i .i64 0), (.s [])] [] [], .sto 4 (.t 4) (.t 20), .as 5 (.c (.b false))] [20])
 (.ret [4, 5]))))⟩
theorem comp30 : compile Try.prog Try.f30 = some code30 := by kernel_rfl
theorem okf30 : okFn Try.prog 30 = true := by kernel_rfl
-- 31: corebank/account.Find
def code31 : FCode := ⟨2, [.cell 4 7 true, .tmp 5],
 (.seq (.s [.box 2 (.t 0), .alo 4 [(.i .i64 0), (.i .i64 0), (.i .i64 0), (.i .i64 0), (.s []), (.s []), (.s [])], .as 5 (.c (.b false))] [])
 (.seq (.q [(6, (.op (.call false 44) [(.op (.ld 22 true) [(.sl 2)]), (.sl 1)]))])
 (.seq (.seq (.q [(11, (.op (.bin .lss) [(.sl 6), (.k (.i .i64 0))]))])
 (.cond (.sl 11) (.seq (.s [.bld 12 [(.i .i64 0), (.i .i64 0), (.i .i64 0), (.i .i64 0), (.s []), (.s []), (.s [])] [] [], .sto 7 (.t 4) (.t 12), .as 5 (.c (.b false))] [12])
 (.ret [4, 5])) .skip))
 (.seq (.s [.fa 13 18 1 (.t 2), .q 14 (.ld 1 false) [(.t 13)], .mv 15 (.t 6), .ix 16 7 (.t 14) (.t 15), .q 17 (.ld 7 true) [(.t 16)], .sto 7 (.t 4) (.t 17), .as 5 (.c (.b true))] [13, 14, 15, 16, 17])
 (.ret [4, 5])))))⟩
theorem comp31 : compile Try.prog Try.f31 = some code31 := by kernel_rfl
theorem okf31 : okFn Try.prog 31 = true := by kernel_rfl
-- 32: corebank/corebankref18.Find
def body32_1 : C :=
 (.seq (.seq (.q [(10, (.op (.bin .lss) [(.sl 6), (.op .len [(.sl 0)])]))])
 (.cond (.sl 10) .skip (.exit 0 [4])))
 (.seq (.blk 1 (.seq (.q [(19, (.op (.bin .eql) [(.op (.ld 1 false) [(.op (.fa 0 1) [(.op (.ix 4) [(.sl 0), (.sl 6)])])]), (.sl 1)]))])
 (.cond (.sl 19) (.seq (.s [.mv 20 (.t 0), .mv 21 (.t 6), .ix 22 4 (.t 20) (.t 21), .q 23 (.ld 4 true) [(.t 22)], .sto 4 (.t 4) (.t 23), .as 5 (.c (.b true))] [20, 21, 22, 23])
 (.ret [4, 5])) .skip)))
 (.q [(6, (.op (.bin .add) [(.sl 6), (.k (.i .i64 1))]))])))
def code32 : FCode := ⟨2, [.cell 4 4 true, .tmp 5],
 (.seq (.s [.alo 4 [(.i .i64 0), (.i .i64 0), (.i .i64 0), (.s [])], .as 5 (.c (.b false))] [])
 (.seq (.seq (.q [(6, (.k (.i .i64 0)))])
 (.blk 0 (.loop [0, 1, 4, 6] body32_1)))
 (.seq (.s [.bld 24 [(.i .i64 0), (.i .i64 0), (.i .i64 0), (.s [])] [] [], .sto 4 (.t 4) (.t 24), .as 5 (.c (.b false))] [24])
 (.ret [4, 5]))))⟩
theorem comp32 : compile Try.prog Try.f32 = some code32 := by kernel_rfl
theorem okf32 : okFn Try.prog 32 = true := by kernel_rfl
-- 33: corebank/corebankref24.Find
def body33_1 : C :=
 (.seq (.seq (.q [(11, (.op (.bin .lss) [(.sl 6), (.op .len [(.op (.ld 1 false) [(.op (.fa 18 1) [(.sl 2)])])])]))])
 (.cond (.sl 11) .skip (.exit 0 [4])))
 (.seq (.blk 1 (.seq (.q [(21, (.op (.bin .eql) [(.op (.ld 1 false) [(.op (.fa 0 1) [(.op (.ix 7) [(.op (.ld 1 false) [(.op (.fa 18 1) [(.sl 2)])]), (.sl 6)])])]), (.sl 1)]))])
 (.cond (.sl 21) (.seq (.s [.fa 22 18 1 (.t 2), .q 23 (.ld 1 false) [(.t 22)], .mv 24 (.t 6), .ix 25 7 (.t 23) (.t 24), .q 26 (.ld 7 true) [(.t 25)], .sto 7 (.t 4) (.t 26), .as 5 (.c (.b true))] [22, 23, 24, 25, 26])
 (.ret [4, 5])) .skip)))
 (.q [(6, (.op (.bin .add) [(.sl 6), (.k (.i .i64 1))]))])))
def code33 : FCode := ⟨2, [.cell 4 7 true, .tmp 5],
 (.seq (.s [.box 2 (.t 0), .alo 4 [(.i .i64 0), (.i .i64 0), (.i .i64 0), (.i .i64 0), (.s []), (.s []), (.s [])], .as 5 (.c (.b false))] [])
 (.seq (.seq (.q [(6, (.k (.i .i64 0)))])
 (.blk 0 (.loop [1, 2, 4, 6] body33_1)))
 (.seq (.s [.bld 27 [(.i .i64 0), (.i .i64 0), (.i .i64 0), (.i .i64 0), (.s []), (.s []), (.s [])] [] [], .sto 7 (.t 4) (.t 27), .as 5 (.c (.b false))] [27])
 (.ret [4, 5]))))⟩
theorem comp33 : compile Try.prog Try.f33 = some code33 := by kernel_rfl
theorem okf33 : okFn Try.prog 33 = true := by kernel_rfl
-- 34: corebank/corebanklaw49.books
def code34 : FCode := ⟨0, [.cell 0 22 true],
 (.seq (.s [.alo 0 [(.l []), (.l []), (.l []), (.i .i64 0), (.i .i64 0), (.i .i64 0), (.i .i64 0), (.i .i64 0), (.i .i64 0), (.i .i64 0), (.i .i64 0), (.i .i64 0), (.i .i64 0), (.i .i64 0), (.i .i64 0), (.i .i64 0), (.i .i64 0), (.l []), (.l []), (.l []), (.l []), (.l [])]] [])
 (.seq (.s [.bld 3 [(.i .i64 0), (.i .i64 0), (.s [])] [(0, 1), (1, 1), (2, 1)] [(.c (.i .i64 11)), (.c (.i .i64 500)), (.c (.s [69, 85, 82]))], .bld 4 [(.i .i64 0), (.i .i64 0), (.s [])] [(0, 1), (1, 1), (2, 1)] [(.c (.i .i64 1000)), (.c (.i .i64 (-500))), (.c (.s [69, 85, 82]))], .bsl 5 107 3 [(.t 3), (.t 4)], .bld 6 [(.i .i64 0), (.i .i64 0), (.i .i64 0), (.i .i64 0), (.i .i64 0), (.i .i64 0), (.s []), (.s []), (.l []), (.i .u64 0)] [(0, 1), (1, 1), (2, 1), (3, 1), (6, 1), (8, 1)] [(.c (.i .i64 1)), (.c (.i .i64 6)), (.c (.i .i64 6)), (.c (.i .i64 1)), (.c (.s [100])), (.t 5)], .alo 1 [(.i .i64 0), (.i .i64 0), (.i .i64 0), (.i .i64 0), (.i .i64 0), (.i .i64 0), (.s []), (.s []), (.l []), (.i .u64 0)], .sto 10 (.t 1) (.t 6)] [3, 4, 5, 6])
 (.seq (.s [.bld 7 [(.i .i64 0), (.i .i64 0), (.i .i64 0), (.s [])] [(0, 1), (2, 1), (3, 1)] [(.c (.i .i64 1)), (.c (.i .i64 1)), (.c (.s [97, 115, 115, 101, 116, 115]))], .bld 8 [(.i .i64 0), (.i .i64 0), (.i .i64 0), (.s [])] [(0, 1), (2, 1), (3, 1)] [(.c (.i .i64 2)), (.c (.i .i64 2)), (.c (.s [100, 101, 98, 116, 115]))], .bld 9 [(.i .i64 0), (.i .i64 0), (.i .i64 0), (.s [])] [(0, 1), (1, 1), (2, 1), (3, 1)] [(.c (.i .i64 11)), (.c (.i .i64 1)), (.c (.i .i64 1)), (.c (.s [99, 97, 115, 104]))], .bld 10 [(.i .i64 0), (.i .i64 0), (.i .i64 0), (.s [])] [(0, 1), (1, 1), (2, 1), (3, 1)] [(.c (.i .i64 21)), (.c (.i .i64 2)), (.c (.i .i64 2)), (.c (.s [100, 101, 112, 111, 115, 105, 116, 115]))], .bsl 11 78 4 [(.t 7), (.t 8), (.t 9), (.t 10)], .as 2 (.t 11)] [7, 8, 9, 10, 11])
 (.seq (.s [.bld 12 [(.s []), (.i .i64 0)] [(0, 1), (1, 1)] [(.c (.s [69, 85, 82])), (.c (.i .i64 2))], .bsl 13 89 2 [(.t 12)], .mv 14 (.t 2), .bld 15 [(.i .i64 0), (.i .i64 0), (.i .i64 0), (.i .i64 0), (.i .i64 0), (.i .i64 0), (.i .i64 0), (.i .i64 0), (.i .i64 0), (.i .i64 0), (.i .i64 0), (.i .i64 0), (.i .i64 0), (.i .i64 0)] [(1, 1)] [(.c (.i .i64 21))], .bld 16 [(.i .i64 0), (.i .i64 0), (.i .i64 0), (.i .i64 0), (.s []), (.s []), (.s [])] [(0, 1), (4, 1), (5, 1)] [(.c (.i .i64 1000)), (.c (.s [97, 110, 110])), (.c (.s [98, 97, 115, 105, 99]))], .bsl 17 82 7 [(.t 16)], .q 18 (.ld 10 true) [(.t 1)], .bsl 19 72 10 [(.t 18)], .bld 20 [(.l []), (.l []), (.l []), (.i .i64 0), (.i .i64 0), (.i .i64 0), (.i .i64 0), (.i .i64 0), (.i .i64 0), (.i .i64 0), (.i .i64 0), (.i .i64 0), (.i .i64 0), (.i .i64 0), (.i .i64 0), (.i .i64 0), (.i .i64 0), (.l []), (.l []), (.l []), (.l []), (.l [])] [(0, 1), (2, 1), (3, 14), (18, 1), (19, 1)] [(.t 13), (.t 14), (.t 15), (.t 17), (.t 19)], .sto 22 (.t 0) (.t 20)] [12, 13, 14, 15, 16, 17, 18, 19, 20])
 (.ret [0])))))⟩
theorem comp34 : compile Try.prog Try.f34 = some code34 := by kernel_rfl
theorem okf34 : okFn Try.prog 34 = true := by kernel_rfl
-- 35: corebank/report.amounts
def body35_1 : C :=
 (.seq (.q [(15, (.op (.bin .lss) [(.sl 14), (.sl 13)]))])
 (.seq (.cond (.sl 15) .skip (.exit 0 [7]))
 (.seq (.blk 1 (.seq (.s [.ix 16 3 (.t 12) (.t 14), .q 17 (.ld 3 true) [(.t 16)], .alo 9 [(.i .i64 0), (.i .i64 0), (.s [])], .sto 3 (.t 9) (.t 17)] [16, 17])
 (.seq (.q [(22, (.op (.call false 45) [(.op (.ld 22 true) [(.sl 3)]), (.op (.ld 3 true) [(.sl 4)]), (.op (.ld 1 false) [(.op (.fa 0 1) [(.sl 9)])])]))])
 (.cond (.sl 22) (.s [.mv 23 (.t 7), .fa 24 2 1 (.t 9), .q 25 (.ld 1 false) [(.t 24)], .mget 26 1 (.i .i64 0) (.t 23) (.t 25), .fa 27 1 1 (.t 4), .q 28 (.ld 1 false) [(.t 27)], .fa 29 1 1 (.t 9), .q 30 (.ld 1 false) [(.t 29)], .q 31 (.bin .mul) [(.t 28), (.t 30)], .q 32 (.bin .add) [(.t 26), (.t 31)], .mset 1 (.t 23) (.t 25) (.t 32)] [23, 24, 25, 26, 27, 28, 29, 30, 31, 32]) .skip))))
 (.q [(14, (.op (.bin .add) [(.sl 14), (.k (.i .i64 1))]))]))))
def code35 : FCode := ⟨3, [.tmp 6],
 (.seq (.s [.box 3 (.t 0), .box 4 (.t 1), .box 5 (.t 2), .as 6 (.c .um)] [])
 (.seq (.s [.mkm 10, .as 7 (.t 10)] [10])
 (.seq (.seq (.s [.fa 11 8 1 (.t 5), .q 12 (.ld 1 false) [(.t 11)], .q 13 .len [(.t 12)], .mv 14 (.c (.i .i64 0))] [11])
 (.blk 0 (.loop [3, 4, 7, 12, 13, 14] body35_1)))
 (.seq (.s [.mv 34 (.t 7), .as 6 (.t 34)] [34])
 (.ret [6])))))⟩
theorem comp35 : compile Try.prog Try.f35 = some code35 := by kernel_rfl
theorem okf35 : okFn Try.prog 35 = true := by kernel_rfl
-- 36: corebank/money.Valid
def code36 : FCode := ⟨1, [.tmp 2],
 (.seq (.q [(2, (.k (.b false)))])
 (.seq (.q [(2, (.ite (.op (.bin .geq) [(.sl 0), (.k (.i .i64 (-1000000000000)))]) (.op (.bin .leq) [(.sl 0), (.k (.i .i64 1000000000000))]) (.k (.b false))))])
 (.ret [2])))⟩
theorem comp36 : compile Try.prog Try.f36 = some code36 := by kernel_rfl
theorem okf36 : okFn Try.prog 36 = true := by kernel_rfl
-- 37: corebank/corebankref49.cell
def body37_1 : C :=
 (.seq (.seq (.q [(16, (.op (.bin .lss) [(.sl 11), (.op .len [(.op (.ld 1 false) [(.op (.fa 19 1) [(.sl 4)])])])]))])
 (.cond (.sl 16) .skip (.exit 0 [10])))
 (.seq (.blk 1 (.seq (.seq (.q [(26, (.op (.bin .gtr) [(.op (.ld 1 false) [(.op (.fa 1 1) [(.op (.ix 10) [(.op (.ld 1 false) [(.op (.fa 19 1) [(.sl 4)])]), (.sl 11)])])]), (.sl 3)]))])
 (.cond (.sl 26) (.exit 1 [2, 3, 4, 5, 10, 11]) .skip))
 (.q [(10, (.op (.bin .add) [(.sl 10), (.op (.call true 40) [(.op (.ld 22 true) [(.sl 4)]), (.op (.ld 3 true) [(.sl 5)]), (.sl 2), (.op (.ld 10 true) [(.op (.ix 10) [(.op (.ld 1 false) [(.op (.fa 19 1) [(.sl 4)])]), (.sl 11)])])])]))])))
 (.q [(11, (.op (.bin .add) [(.sl 11), (.k (.i .i64 1))]))])))
def code37 : FCode := ⟨4, [.tmp 8, .tmp 9],
 (.seq (.s [.box 4 (.t 0), .box 5 (.t 1), .as 8 (.c (.i .i64 0)), .as 9 (.c (.i .i64 0))] [])
 (.seq (.q [(10, (.k (.i .i64 0)))])
 (.seq (.seq (.q [(11, (.k (.i .i64 0)))])
 (.blk 0 (.loop [2, 3, 4, 5, 10, 11] body37_1)))
 (.seq (.seq (.q [(43, (.ite (.op (.bin .lss) [(.sl 10), (.k (.i .i64 (-1000000000000)))]) (.k (.b true)) (.op (.bin .gtr) [(.sl 10), (.k (.i .i64 1000000000000))])))])
 (.cond (.sl 43) (.seq (.q [(8, (.k (.i .i64 0))), (9, (.k (.i .i64 6)))])
 (.ret [8, 9])) .skip))
 (.seq (.q [(8, (.sl 10)), (9, (.k (.i .i64 0)))])
 (.ret [8, 9]))))))⟩
theorem comp37 : compile Try.prog Try.f37 = some code37 := by kernel_rfl
theorem okf37 : okFn Try.prog 37 = true := by kernel_rfl
-- 38: corebank/money.Find
def body38_1 : C :=
 (.seq (.q [(11, (.op (.bin .lss) [(.sl 10), (.sl 9)]))])
 (.seq (.cond (.sl 11) .skip (.exit 0 [4]))
 (.seq (.blk 1 (.seq (.s [.ix 12 2 (.t 8) (.t 10), .q 13 (.ld 2 true) [(.t 12)], .alo 7 [(.s []), (.i .i64 0)], .sto 2 (.t 7) (.t 13)] [12, 13])
 (.seq (.q [(17, (.op (.bin .eql) [(.op (.ld 1 false) [(.op (.fa 0 1) [(.sl 7)])]), (.sl 1)]))])
 (.cond (.sl 17) (.seq (.s [.q 18 (.ld 2 true) [(.t 7)], .sto 2 (.t 4) (.t 18), .as 5 (.c (.b true))] [18])
 (.ret [4, 5])) .skip))))
 (.q [(10, (.op (.bin .add) [(.sl 10), (.k (.i .i64 1))]))]))))
def code38 : FCode := ⟨2, [.cell 4 2 true, .tmp 5],
 (.seq (.s [.alo 4 [(.s []), (.i .i64 0)], .as 5 (.c (.b false))] [])
 (.seq (.seq (.s [.mv 8 (.t 0), .q 9 .len [(.t 8)], .mv 10 (.c (.i .i64 0))] [])
 (.blk 0 (.loop [1, 4, 8, 9, 10] body38_1)))
 (.seq (.s [.bld 20 [(.s []), (.i .i64 0)] [] [], .sto 2 (.t 4) (.t 20), .as 5 (.c (.b false))] [20])
 (.ret [4, 5]))))⟩
theorem comp38 : compile Try.prog Try.f38 = some code38 := by kernel_rfl
theorem okf38 : okFn Try.prog 38 = true := by kernel_rfl
-- 39: corebank/corebankref03.Find
def body39_1 : C :=
 (.seq (.seq (.q [(10, (.op (.bin .lss) [(.sl 6), (.op .len [(.sl 0)])]))])
 (.cond (.sl 10) .skip (.exit 0 [4])))
 (.seq (.blk 1 (.seq (.q [(19, (.op (.bin .eql) [(.op (.ld 1 false) [(.op (.fa 0 1) [(.op (.ix 2) [(.sl 0), (.sl 6)])])]), (.sl 1)]))])
 (.cond (.sl 19) (.seq (.s [.mv 20 (.t 0), .mv 21 (.t 6), .ix 22 2 (.t 20) (.t 21), .q 23 (.ld 2 true) [(.t 22)], .sto 2 (.t 4) (.t 23), .as 5 (.c (.b true))] [20, 21, 22, 23])
 (.ret [4, 5])) .skip)))
 (.q [(6, (.op (.bin .add) [(.sl 6), (.k (.i .i64 1))]))])))
def code39 : FCode := ⟨2, [.cell 4 2 true, .tmp 5],
 (.seq (.s [.alo 4 [(.s []), (.i .i64 0)], .as 5 (.c (.b false))] [])
 (.seq (.seq (.q [(6, (.k (.i .i64 0)))])
 (.blk 0 (.loop [0, 1, 4, 6] body39_1)))
 (.seq (.s [.bld 24 [(.s []), (.i .i64 0)] [] [], .sto 2 (.t 4) (.t 24), .as 5 (.c (.b false))] [24])
 (.ret [4, 5]))))⟩
theorem comp39 : compile Try.prog Try.f39 = some code39 := by kernel_rfl
theorem okf39 : okFn Try.prog 39 = true := by kernel_rfl
-- 40: corebank/corebankref49.amount
def body40_1 : C :=
 (.seq (.seq (.q [(15, (.op (.bin .lss) [(.sl 10), (.op .len [(.op (.ld 1 false) [(.op (.fa 8 1) [(.sl 7)])])])]))])
 (.cond (.sl 15) .skip (.exit 0 [5, 9])))
 (.seq (.blk 1 (.seq (.q [(36, (.ite (.op (.bin .eql) [(.op (.ld 1 false) [(.op (.fa 2 1) [(.op (.ix 3) [(.op (.ld 1 false) [(.op (.fa 8 1) [(.sl 7)])]), (.sl 10)])])]), (.sl 2)]) (.op (.call true 46) [(.op (.ld 22 true) [(.sl 4)]), (.op (.ld 3 true) [(.sl 5)]), (.op (.ld 1 false) [(.op (.fa 0 1) [(.op (.ix 3) [(.op (.ld 1 false) [(.op (.fa 8 1) [(.sl 7)])]), (.sl 10)])])])]) (.k (.b false))))])
 (.cond (.sl 36) (.q [(9, (.op (.bin .add) [(.sl 9), (.op (.ld 1 false) [(.op (.fa 1 1) [(.op (.ix 3) [(.op (.ld 1 false) [(.op (.fa 8 1) [(.sl 7)])]), (.sl 10)])])])]))]) .skip)))
 (.q [(10, (.op (.bin .add) [(.sl 10), (.k (.i .i64 1))]))])))
def code40 : FCode := ⟨4, [.tmp 8],
 (.seq (.s [.box 4 (.t 0), .box 5 (.t 1), .box 7 (.t 3), .as 8 (.c (.i .i64 0))] [])
 (.seq (.q [(9, (.k (.i .i64 0)))])
 (.seq (.seq (.q [(10, (.k (.i .i64 0)))])
 (.blk 0 (.loop [2, 4, 5, 7, 9, 10] body40_1)))
 (.seq (.q [(8, (.op (.bin .mul) [(.op (.ld 1 false) [(.op (.fa 1 1) [(.sl 5)])]), (.sl 9)]))])
 (.ret [8])))))⟩
theorem comp40 : compile Try.prog Try.f40 = some code40 := by kernel_rfl
theorem okf40 : okFn Try.prog 40 = true := by kernel_rfl
-- 41: corebank/corebankref10.Great
def code41 : FCode := ⟨2, [.tmp 4],
 (.seq (.s [.box 2 (.t 0), .as 4 (.c (.b false))] [])
 (.seq (.q [(4, (.op (.bin .gtr) [(.op (.call false 47) [(.op (.ld 4 true) [(.sl 2)]), (.sl 1)]), (.sl 1)]))])
 (.ret [4])))⟩
theorem comp41 : compile Try.prog Try.f41 = some code41 := by kernel_rfl
theorem okf41 : okFn Try.prog 41 = true := by kernel_rfl
-- 42: corebank/chart.Under
def code42 : FCode := ⟨3, [.tmp 6],
 (.seq (.q [(6, (.k (.b false)))])
 (.seq (.q [(6, (.op (.call false 48) [(.op (.call false 49) [(.sl 0), (.sl 1)]), (.sl 2)]))])
 (.ret [6])))⟩
theorem comp42 : compile Try.prog Try.f42 = some code42 := by kernel_rfl
theorem okf42 : okFn Try.prog 42 = true := by kernel_rfl
-- 43: corebank/corebankref18.Under
def body43_1 : C :=
 (.seq (.seq (.q [(15, (.op (.bin .lss) [(.sl 8), (.op .len [(.sl 7)])]))])
 (.cond (.sl 15) .skip (.exit 0 [])))
 (.seq (.blk 1 (.seq (.q [(23, (.op (.bin .eql) [(.op (.ld 1 false) [(.op (.ix 1) [(.sl 7), (.sl 8)])]), (.sl 2)]))])
 (.cond (.sl 23) (.seq (.q [(6, (.k (.b true)))])
 (.ret [6])) .skip)))
 (.q [(8, (.op (.bin .add) [(.sl 8), (.k (.i .i64 1))]))])))
def code43 : FCode := ⟨3, [.tmp 6],
 (.seq (.q [(6, (.k (.b false)))])
 (.seq (.s [.mv 9 (.t 0), .mv 10 (.t 1), .call (some 11) 50 [(.t 9), (.t 10)], .as 7 (.t 11)] [9, 10, 11])
 (.seq (.seq (.q [(8, (.k (.i .i64 0)))])
 (.blk 0 (.loop [2, 7, 8] body43_1)))
 (.seq (.q [(6, (.k (.b false)))])
 (.ret [6])))))⟩
theorem comp43 : compile Try.prog Try.f43 = some code43 := by kernel_rfl
theorem okf43 : okFn Try.prog 43 = true := by kernel_rfl
-- 44: corebank/account.index
def code44 : FCode := ⟨2, [.tmp 4],
 (.seq (.s [.box 2 (.t 0), .box 3 (.t 1), .as 4 (.c (.i .i64 0))] [])
 (.seq (.s [.fa 5 18 1 (.t 2), .q 6 (.ld 1 false) [(.t 5)], .mkf 7 (.func 52) 0 [(.t 3)], .call (some 8) 51 [(.t 6), (.t 7)], .as 4 (.t 8)] [5, 6, 7, 8])
 (.ret [4])))⟩
theorem comp44 : compile Try.prog Try.f44 = some code44 := by kernel_rfl
theorem okf44 : okFn Try.prog 44 = true := by kernel_rfl
-- 45: corebank/report.belongs
def code45 : FCode := ⟨3, [.tmp 6],
 (.seq (.s [.box 3 (.t 0), .box 4 (.t 1), .as 6 (.c (.b false))] [])
 (.seq (.s [.q 8 (.ld 22 true) [(.t 3)], .mv 9 (.t 2), .call (some 10) 11 [(.t 8), (.t 9)], .alo 7 [(.i .i64 0)], .sto 1 (.t 7) (.t 10)] [8, 9, 10])
 (.seq (.g [.s (.q 11 (.ld 1 false) [(.t 7)]), .s (.q 12 (.bin .neq) [(.t 11), (.c (.i .i64 0))]), .s (.mv 13 (.t 12)), .gd 13 true (some 14) (.fa 14 2 1 (.t 4)), .gd 13 true (some 15) (.q 15 (.ld 1 false) [(.t 14)]), .gd 13 true (some 16) (.mkf 16 (.func 54) 0 [(.t 3), (.t 7)]), .gd 13 true (some 17) (.call (some 17) 53 [(.t 15), (.t 16)]), .pick 18 13 (.t 17) (.c (.b false)), .s (.as 6 (.t 18))] [11, 12, 13, 14, 15, 16, 17, 18])
 (.ret [6]))))⟩
theorem comp45 : compile Try.prog Try.f45 = some code45 := by kernel_rfl
theorem okf45 : okFn Try.prog 45 = true := by kernel_rfl
-- 46: corebank/corebankref49.belongs
def body46_1 : C :=
 (.seq (.seq (.q [(16, (.op (.bin .lss) [(.sl 8), (.op .len [(.op (.ld 1 false) [(.op (.fa 2 1) [(.sl 4)])])])]))])
 (.cond (.sl 16) .skip (.exit 0 [])))
 (.seq (.blk 1 (.seq (.q [(31, (.ite (.op (.bin .neq) [(.sl 7), (.k (.i .i64 0))]) (.op (.call true 43) [(.op (.ld 1 false) [(.op (.fa 2 1) [(.sl 3)])]), (.sl 7), (.op (.ld 1 false) [(.op (.ix 1) [(.op (.ld 1 false) [(.op (.fa 2 1) [(.sl 4)])]), (.sl 8)])])]) (.k (.b false))))])
 (.cond (.sl 31) (.seq (.q [(6, (.k (.b true)))])
 (.ret [6])) .skip)))
 (.q [(8, (.op (.bin .add) [(.sl 8), (.k (.i .i64 1))]))])))
def code46 : FCode := ⟨3, [.tmp 6],
 (.seq (.s [.box 3 (.t 0), .box 4 (.t 1), .as 6 (.c (.b false))] [])
 (.seq (.q [(7, (.op (.call false 12) [(.op (.ld 22 true) [(.sl 3)]), (.sl 2)]))])
 (.seq (.seq (.q [(8, (.k (.i .i64 0)))])
 (.blk 0 (.loop [3, 4, 7, 8] body46_1)))
 (.seq (.q [(6, (.k (.b false)))])
 (.ret [6])))))⟩
theorem comp46 : compile Try.prog Try.f46 = some code46 := by kernel_rfl
theorem okf46 : okFn Try.prog 46 = true := by kernel_rfl
-- 47: corebank/corebankref10.count
def body47_1 : C :=
 (.seq (.seq (.q [(16, (.ite (.op (.bin .lss) [(.sl 6), (.op .len [(.op (.ld 1 false) [(.op (.fa 3 1) [(.sl 2)])])])]) (.op (.bin .leq) [(.sl 5), (.sl 1)]) (.k (.b false))))])
 (.cond (.sl 16) .skip (.exit 0 [5])))
 (.seq (.blk 1 (.q [(5, (.op (.bin .add) [(.sl 5), (.op (.call false 47) [(.op (.ld 4 true) [(.op (.ix 4) [(.op (.ld 1 false) [(.op (.fa 3 1) [(.sl 2)])]), (.sl 6)])]), (.op (.bin .sub) [(.sl 1), (.sl 5)])])]))]))
 (.q [(6, (.op (.bin .add) [(.sl 6), (.k (.i .i64 1))]))])))
def code47 : FCode := ⟨2, [.tmp 4],
 (.seq (.s [.box 2 (.t 0), .as 4 (.c (.i .i64 0))] [])
 (.seq (.q [(5, (.k (.i .i64 1)))])
 (.seq (.seq (.q [(6, (.k (.i .i64 0)))])
 (.blk 0 (.loop [1, 2, 5, 6] body47_1)))
 (.seq (.q [(4, (.sl 5))])
 (.ret [4])))))⟩
theorem comp47 : compile Try.prog Try.f47 = some code47 := by kernel_rfl
theorem okf47 : okFn Try.prog 47 = true := by kernel_rfl
-- 48: slices.Contains[[]int,int]
def code48 : FCode := ⟨2, [.tmp 4],
 (.seq (.q [(4, (.k (.b false)))])
 (.seq (.q [(4, (.op (.bin .geq) [(.op (.call false 55) [(.sl 0), (.sl 1)]), (.k (.i .i64 0))]))])
 (.ret [4])))⟩
theorem comp48 : compile Try.prog Try.f48 = some code48 := by kernel_rfl
theorem okf48 : okFn Try.prog 48 = true := by kernel_rfl
-- 49: corebank/chart.Path
def body49_1 : C :=
 (.seq (.seq (.q [(19, (.ite (.sl 7) (.op (.bin .lss) [(.op .len [(.sl 5)]), (.k (.i .i64 40))]) (.k (.b false))))])
 (.cond (.sl 19) .skip (.exit 0 [5])))
 (.blk 1 (.seq (.s [.mv 20 (.t 5), .fa 21 0 1 (.t 6), .q 22 (.ld 1 false) [(.t 21)], .bsl 23 3 1 [(.t 22)], .app 24 3 1 8 (.t 20) (.t 23), .as 5 (.t 24)] [20, 21, 22, 23, 24])
 (.seq (.seq (.q [(27, (.op (.bin .eql) [(.op (.ld 1 false) [(.op (.fa 1 1) [(.sl 6)])]), (.k (.i .i64 0))]))])
 (.cond (.sl 27) (.exit 0 [5]) .skip))
 (.s [.mv 29 (.t 0), .fa 30 1 1 (.t 6), .q 31 (.ld 1 false) [(.t 30)], .call (some 32) 30 [(.t 29), (.t 31)], .mv 28 (.t 32), .ext 33 0 28, .ext 34 1 28, .sto 4 (.t 6) (.t 33), .as 7 (.t 34)] [29, 30, 31, 32, 28, 33, 34])))))
def code49 : FCode := ⟨2, [.tmp 4],
 (.seq (.s [.as 4 (.c (.ow 3 []))] [])
 (.seq (.s [.as 5 (.c (.ow 3 []))] [])
 (.seq (.s [.mv 9 (.t 0), .mv 10 (.t 1), .call (some 11) 30 [(.t 9), (.t 10)], .mv 8 (.t 11), .ext 12 0 8, .ext 13 1 8, .alo 6 [(.i .i64 0), (.i .i64 0), (.i .i64 0), (.s [])], .sto 4 (.t 6) (.t 12), .as 7 (.t 13)] [9, 10, 11, 8, 12, 13])
 (.seq (.blk 0 (.loop [0, 5, 6, 7] body49_1))
 (.seq (.s [.mv 35 (.t 5), .callm (some 36) 56 (mutOf 56) (.t 35) []] [35, 36])
 (.seq (.s [.mv 37 (.t 5), .as 4 (.t 37)] [37])
 (.ret [4])))))))⟩
theorem comp49 : compile Try.prog Try.f49 = some code49 := by kernel_rfl
theorem okf49 : okFn Try.prog 49 = true := by kernel_rfl
-- 50: corebank/corebankref18.Path
def body50_1 : C :=
 (.seq (.seq (.q [(19, (.ite (.sl 7) (.op (.bin .lss) [(.op .len [(.sl 5)]), (.k (.i .i64 40))]) (.k (.b false))))])
 (.cond (.sl 19) .skip (.exit 0 [5])))
 (.blk 1 (.seq (.s [.fa 20 0 1 (.t 6), .q 21 (.ld 1 false) [(.t 20)], .bsl 22 3 1 [(.t 21)], .mv 23 (.t 5), .app 24 3 1 8 (.t 22) (.t 23), .as 5 (.t 24)] [20, 21, 22, 23, 24])
 (.seq (.seq (.q [(27, (.op (.bin .eql) [(.op (.ld 1 false) [(.op (.fa 1 1) [(.sl 6)])]), (.k (.i .i64 0))]))])
 (.cond (.sl 27) (.seq (.s [.mv 28 (.t 5), .as 4 (.t 28)] [28])
 (.ret [4])) .skip))
 (.s [.mv 30 (.t 0), .fa 31 1 1 (.t 6), .q 32 (.ld 1 false) [(.t 31)], .call (some 33) 32 [(.t 30), (.t 32)], .mv 29 (.t 33), .ext 34 0 29, .ext 35 1 29, .sto 4 (.t 6) (.t 34), .as 7 (.t 35)] [30, 31, 32, 33, 29, 34, 35])))))
def code50 : FCode := ⟨2, [.tmp 4],
 (.seq (.s [.as 4 (.c (.ow 3 []))] [])
 (.seq (.s [.as 5 (.c (.ow 3 []))] [])
 (.seq (.s [.mv 9 (.t 0), .mv 10 (.t 1), .call (some 11) 32 [(.t 9), (.t 10)], .mv 8 (.t 11), .ext 12 0 8, .ext 13 1 8, .alo 6 [(.i .i64 0), (.i .i64 0), (.i .i64 0), (.s [])], .sto 4 (.t 6) (.t 12), .as 7 (.t 13)] [9, 10, 11, 8, 12, 13])
 (.seq (.blk 0 (.loop [0, 5, 6, 7] body50_1))
 (.seq (.s [.mv 36 (.t 5), .as 4 (.t 36)] [36])
 (.ret [4]))))))⟩
theorem comp50 : compile Try.prog Try.f50 = some code50 := by kernel_rfl
theorem okf50 : okFn Try.prog 50 = true := by kernel_rfl
-- 51: slices.IndexFunc[[]corebank/api.Account,corebank/api.Account]
def body51_1 : C :=
 (.seq (.q [(9, (.op (.bin .lss) [(.sl 8), (.sl 7)]))])
 (.seq (.cond (.sl 9) .skip (.exit 0 []))
 (.seq (.blk 1 (.seq (.q [(5, (.sl 8))])
 (.seq (.q [(16, (.op (.callv false) [(.sl 1), (.op (.ld 7 true) [(.op (.ix 7) [(.sl 0), (.sl 5)])])]))])
 (.cond (.sl 16) (.seq (.q [(4, (.sl 5))])
 (.ret [4])) .skip))))
 (.q [(8, (.op (.bin .add) [(.sl 8), (.k (.i .i64 1))]))]))))
def code51 : FCode := ⟨2, [.tmp 4],
 (.seq (.q [(4, (.k (.i .i64 0)))])
 (.seq (.seq (.q [(7, (.op .len [(.sl 0)])), (8, (.k (.i .i64 0)))])
 (.blk 0 (.loop [0, 1, 7, 8] body51_1)))
 (.seq (.q [(4, (.k (.i .i64 (-1))))])
 (.ret [4]))))⟩
theorem comp51 : compile Try.prog Try.f51 = some code51 := by kernel_rfl
theorem okf51 : okFn Try.prog 51 = true := by kernel_rfl
-- 52: corebank/account.index$1
def code52 : FCode := ⟨2, [.tmp 3],
 (.seq (.s [.box 2 (.t 0), .as 3 (.c (.b false))] [])
 (.seq (.q [(3, (.op (.bin .eql) [(.op (.ld 1 false) [(.op (.fa 0 1) [(.sl 2)])]), (.op (.ld 1 false) [(.sl 1)])]))])
 (.ret [3])))⟩
theorem comp52 : compile Try.prog Try.f52 = some code52 := by kernel_rfl
theorem okf52 : okFn Try.prog 52 = true := by kernel_rfl
-- 53: slices.ContainsFunc[[]int,int]
def code53 : FCode := ⟨2, [.tmp 4],
 (.seq (.q [(4, (.k (.b false)))])
 (.seq (.q [(4, (.op (.bin .geq) [(.op (.call false 57) [(.sl 0), (.sl 1)]), (.k (.i .i64 0))]))])
 (.ret [4])))⟩
theorem comp53 : compile Try.prog Try.f53 = some code53 := by kernel_rfl
theorem okf53 : okFn Try.prog 53 = true := by kernel_rfl
-- 54: corebank/report.belongs$1
def code54 : FCode := ⟨3, [.tmp 4],
 (.seq (.q [(4, (.k (.b false)))])
 (.seq (.q [(4, (.op (.call false 42) [(.op (.ld 1 false) [(.op (.fa 2 1) [(.sl 1)])]), (.op (.ld 1 false) [(.sl 2)]), (.sl 0)]))])
 (.ret [4])))⟩
theorem comp54 : compile Try.prog Try.f54 = some code54 := by kernel_rfl
theorem okf54 : okFn Try.prog 54 = true := by kernel_rfl
-- 55: slices.Index[[]int,int]
def body55_1 : C :=
 (.seq (.q [(9, (.op (.bin .lss) [(.sl 8), (.sl 7)]))])
 (.seq (.cond (.sl 9) .skip (.exit 0 []))
 (.seq (.blk 1 (.seq (.q [(5, (.sl 8))])
 (.seq (.q [(16, (.op (.bin .eql) [(.sl 1), (.op (.ld 1 false) [(.op (.ix 1) [(.sl 0), (.sl 5)])])]))])
 (.cond (.sl 16) (.seq (.q [(4, (.sl 5))])
 (.ret [4])) .skip))))
 (.q [(8, (.op (.bin .add) [(.sl 8), (.k (.i .i64 1))]))]))))
def code55 : FCode := ⟨2, [.tmp 4],
 (.seq (.q [(4, (.k (.i .i64 0)))])
 (.seq (.seq (.q [(7, (.op .len [(.sl 0)])), (8, (.k (.i .i64 0)))])
 (.blk 0 (.loop [0, 1, 7, 8] body55_1)))
 (.seq (.q [(4, (.k (.i .i64 (-1))))])
 (.ret [4]))))⟩
theorem comp55 : compile Try.prog Try.f55 = some code55 := by kernel_rfl
theorem okf55 : okFn Try.prog 55 = true := by kernel_rfl
-- 57: slices.IndexFunc[[]int,int]
def body57_1 : C :=
 (.seq (.q [(9, (.op (.bin .lss) [(.sl 8), (.sl 7)]))])
 (.seq (.cond (.sl 9) .skip (.exit 0 []))
 (.seq (.blk 1 (.seq (.q [(5, (.sl 8))])
 (.seq (.q [(16, (.op (.callv false) [(.sl 1), (.op (.ld 1 false) [(.op (.ix 1) [(.sl 0), (.sl 5)])])]))])
 (.cond (.sl 16) (.seq (.q [(4, (.sl 5))])
 (.ret [4])) .skip))))
 (.q [(8, (.op (.bin .add) [(.sl 8), (.k (.i .i64 1))]))]))))
def code57 : FCode := ⟨2, [.tmp 4],
 (.seq (.q [(4, (.k (.i .i64 0)))])
 (.seq (.seq (.q [(7, (.op .len [(.sl 0)])), (8, (.k (.i .i64 0)))])
 (.blk 0 (.loop [0, 1, 7, 8] body57_1)))
 (.seq (.q [(4, (.k (.i .i64 (-1))))])
 (.ret [4]))))⟩
theorem comp57 : compile Try.prog Try.f57 = some code57 := by kernel_rfl
theorem okf57 : okFn Try.prog 57 = true := by kernel_rfl
/-- All of them. -/
def codes : List (Nat × FCode) := [(2, code2), (3, code3), (4, code4), (5, code5), (6, code6), (7, code7), (8, code8), (9, code9), (10, code10), (11, code11), (12, code12), (13, code13), (15, code15), (16, code16), (17, code17), (18, code18), (19, code19), (20, code20), (21, code21), (22, code22), (23, code23), (24, code24), (25, code25), (26, code26), (27, code27), (28, code28), (29, code29), (30, code30), (31, code31), (32, code32), (33, code33), (34, code34), (35, code35), (36, code36), (37, code37), (38, code38), (39, code39), (40, code40), (41, code41), (42, code42), (43, code43), (44, code44), (45, code45), (46, code46), (47, code47), (48, code48), (49, code49), (50, code50), (51, code51), (52, code52), (53, code53), (54, code54), (55, code55), (57, code57)]
def tab : Nat → Option FCode := tabOf codes
theorem codes_ok : ∀ p ∈ codes, ∃ fn, Try.prog.funcs[p.1]? = some fn ∧ compile Try.prog fn = some p.2 ∧ okFn Try.prog p.1 = true := by
  unfold codes
  simp only [List.forall_mem_cons]
  exact ⟨⟨_, Try.func2, comp2, okf2⟩, ⟨_, Try.func3, comp3, okf3⟩, ⟨_, Try.func4, comp4, okf4⟩, ⟨_, Try.func5, comp5, okf5⟩, ⟨_, Try.func6, comp6, okf6⟩, ⟨_, Try.func7, comp7, okf7⟩, ⟨_, Try.func8, comp8, okf8⟩, ⟨_, Try.func9, comp9, okf9⟩, ⟨_, Try.func10, comp10, okf10⟩, ⟨_, Try.func11, comp11, okf11⟩, ⟨_, Try.func12, comp12, okf12⟩, ⟨_, Try.func13, comp13, okf13⟩, ⟨_, Try.func15, comp15, okf15⟩, ⟨_, Try.func16, comp16, okf16⟩, ⟨_, Try.func17, comp17, okf17⟩, ⟨_, Try.func18, comp18, okf18⟩, ⟨_, Try.func19, comp19, okf19⟩, ⟨_, Try.func20, comp20, okf20⟩, ⟨_, Try.func21, comp21, okf21⟩, ⟨_, Try.func22, comp22, okf22⟩, ⟨_, Try.func23, comp23, okf23⟩, ⟨_, Try.func24, comp24, okf24⟩, ⟨_, Try.func25, comp25, okf25⟩, ⟨_, Try.func26, comp26, okf26⟩, ⟨_, Try.func27, comp27, okf27⟩, ⟨_, Try.func28, comp28, okf28⟩, ⟨_, Try.func29, comp29, okf29⟩, ⟨_, Try.func30, comp30, okf30⟩, ⟨_, Try.func31, comp31, okf31⟩, ⟨_, Try.func32, comp32, okf32⟩, ⟨_, Try.func33, comp33, okf33⟩, ⟨_, Try.func34, comp34, okf34⟩, ⟨_, Try.func35, comp35, okf35⟩, ⟨_, Try.func36, comp36, okf36⟩, ⟨_, Try.func37, comp37, okf37⟩, ⟨_, Try.func38, comp38, okf38⟩, ⟨_, Try.func39, comp39, okf39⟩, ⟨_, Try.func40, comp40, okf40⟩, ⟨_, Try.func41, comp41, okf41⟩, ⟨_, Try.func42, comp42, okf42⟩, ⟨_, Try.func43, comp43, okf43⟩, ⟨_, Try.func44, comp44, okf44⟩, ⟨_, Try.func45, comp45, okf45⟩, ⟨_, Try.func46, comp46, okf46⟩, ⟨_, Try.func47, comp47, okf47⟩, ⟨_, Try.func48, comp48, okf48⟩, ⟨_, Try.func49, comp49, okf49⟩, ⟨_, Try.func50, comp50, okf50⟩, ⟨_, Try.func51, comp51, okf51⟩, ⟨_, Try.func52, comp52, okf52⟩, ⟨_, Try.func53, comp53, okf53⟩, ⟨_, Try.func54, comp54, okf54⟩, ⟨_, Try.func55, comp55, okf55⟩, ⟨_, Try.func57, comp57, okf57⟩, fun _ h => by cases h⟩
end Go.Proofs.Ytmhbkofbbkogeaa
