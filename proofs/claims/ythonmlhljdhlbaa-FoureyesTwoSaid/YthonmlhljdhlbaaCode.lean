/-
  The code of the functions that the laws reach, as the evaluator runs it: printed by a program of ours off the translation, and held against it by the kernel.
-/
import Derived.Test.YthonmlhljdhlbaaProg
import Derived.Test.YthonmlhljdhlbaaVmN
import Derived.KernelRfl
namespace Go.Proofs.Ythonmlhljdhlbaa
open Go.VM
-- 2: gosem.cut.init
def code2 : FCode := ⟨0, [],
 (.s [.call (some 0) 1 []] [0])⟩
theorem comp2 : compile Try.prog Try.f2 = some code2 := by kernel_rfl
theorem okf2 : okFn Try.prog 2 = true := by kernel_rfl
-- 3: corebank/corebanklaw47.FoureyesChecks
def code3 : FCode := ⟨1, [.tmp 2],
 (.seq (.q [(2, (.k (.b false)))])
 (.seq (.q [(2, (.ite (.ite (.op (.call false 9) [(.sl 0)]) (.k (.b true)) (.op (.bin .eql) [(.op (.call false 10) [(.sl 0)]), (.op (.call false 11) [(.sl 0)])])) (.op (.call false 12) []) (.k (.b false))))])
 (.ret [2])))⟩
theorem comp3 : compile Try.prog Try.f3 = some code3 := by kernel_rfl
theorem okf3 : okFn Try.prog 3 = true := by kernel_rfl
-- 4: corebank/corebanklaw47.FoureyesProposes
def code4 : FCode := ⟨2, [.tmp 4],
 (.seq (.s [.box 3 (.t 1), .as 4 (.c (.b false))] [])
 (.seq (.seq (.q [(15, (.ite (.op (.call false 9) [(.sl 0)]) (.k (.b true)) (.op (.call false 9) [(.op (.bsl 35) [(.op (.ld 35 true) [(.sl 3)])])])))])
 (.cond (.sl 15) (.seq (.q [(4, (.op (.call false 12) []))])
 (.ret [4])) .skip))
 (.seq (.s [.mv 18 (.t 0), .q 19 (.ld 35 true) [(.t 3)], .call (some 20) 13 [(.t 18), (.t 19)], .mv 17 (.t 20), .ext 21 0 17, .ext 22 1 17, .as 5 (.t 21), .as 6 (.t 22)] [18, 19, 20, 17, 21, 22])
 (.seq (.s [.mv 24 (.t 0), .q 25 (.ld 35 true) [(.t 3)], .call (some 26) 14 [(.t 24), (.t 25)], .mv 23 (.t 26), .ext 27 0 23, .ext 28 1 23, .as 7 (.t 27), .as 8 (.t 28)] [24, 25, 26, 23, 27, 28])
 (.seq (.q [(4, (.ite (.ite (.ite (.op (.call false 15) [(.sl 5), (.sl 7)]) (.op (.bin .eql) [(.sl 6), (.sl 8)]) (.k (.b false))) (.ite (.op (.bin .neq) [(.sl 6), (.k (.i .i64 0))]) (.k (.b true)) (.op (.bin .eql) [(.op (.call false 10) [(.sl 5)]), (.k (.i .i64 0))])) (.k (.b false))) (.op (.call false 12) []) (.k (.b false))))])
 (.ret [4]))))))⟩
theorem comp4 : compile Try.prog Try.f4 = some code4 := by kernel_rfl
theorem okf4 : okFn Try.prog 4 = true := by kernel_rfl
-- 5: corebank/corebanklaw47.FoureyesApproves
def code5 : FCode := ⟨3, [.tmp 6],
 (.seq (.s [.box 5 (.t 2), .as 6 (.c (.b false))] [])
 (.seq (.seq (.q [(28, (.ite (.ite (.op (.call false 9) [(.sl 0)]) (.k (.b true)) (.op (.call false 16) [(.sl 1)])) (.k (.b true)) (.op (.bin .gtr) [(.op .slen [(.op (.ld 1 false) [(.op (.fa 1 1) [(.sl 5)])])]), (.k (.i .i64 100))])))])
 (.cond (.sl 28) (.seq (.q [(6, (.op (.call false 12) []))])
 (.ret [6])) .skip))
 (.seq (.s [.mv 31 (.t 0), .mv 32 (.t 1), .fa 33 0 1 (.t 5), .q 34 (.ld 1 false) [(.t 33)], .fa 35 1 1 (.t 5), .q 36 (.ld 1 false) [(.t 35)], .fa 37 2 1 (.t 5), .q 38 (.ld 1 false) [(.t 37)], .call (some 39) 17 [(.t 31), (.t 32), (.t 34), (.t 36), (.t 38)], .mv 30 (.t 39), .ext 40 0 30, .ext 41 1 30, .ext 42 2 30, .alo 8 [(.i .i64 0), (.i .i64 0), (.i .i64 0), (.i .i64 0), (.i .i64 0), (.i .i64 0), (.s []), (.s []), (.s []), (.i .i64 0), (.i .i64 0), (.i .i64 0), (.i .i64 0), (.i .i64 0), (.i .i64 0), (.i .i64 0), (.i .i64 0), (.i .i64 0), (.i .i64 0), (.s []), (.s []), (.s []), (.i .i64 0), (.i .i64 0), (.i .i64 0), (.i .i64 0), (.i .i64 0), (.s []), (.l [])], .as 7 (.t 40), .sto 29 (.t 8) (.t 41), .as 9 (.t 42)] [31, 32, 33, 34, 35, 36, 37, 38, 39, 30, 40, 41, 42])
 (.seq (.s [.mv 44 (.t 0), .mv 45 (.t 1), .fa 46 0 1 (.t 5), .q 47 (.ld 1 false) [(.t 46)], .fa 48 1 1 (.t 5), .q 49 (.ld 1 false) [(.t 48)], .fa 50 2 1 (.t 5), .q 51 (.ld 1 false) [(.t 50)], .call (some 52) 18 [(.t 44), (.t 45), (.t 47), (.t 49), (.t 51)], .mv 43 (.t 52), .ext 53 0 43, .ext 54 1 43, .ext 55 2 43, .alo 11 [(.i .i64 0), (.i .i64 0), (.i .i64 0), (.i .i64 0), (.i .i64 0), (.i .i64 0), (.s []), (.s []), (.s []), (.i .i64 0), (.i .i64 0), (.i .i64 0), (.i .i64 0), (.i .i64 0), (.i .i64 0), (.i .i64 0), (.i .i64 0), (.i .i64 0), (.i .i64 0), (.s []), (.s []), (.s []), (.i .i64 0), (.i .i64 0), (.i .i64 0), (.i .i64 0), (.i .i64 0), (.s []), (.l [])], .as 10 (.t 53), .sto 29 (.t 11) (.t 54), .as 12 (.t 55)] [44, 45, 46, 47, 48, 49, 50, 51, 52, 43, 53, 54, 55])
 (.seq (.s [.mv 57 (.t 0), .mv 58 (.t 1), .fa 59 0 1 (.t 5), .q 60 (.ld 1 false) [(.t 59)], .fa 61 1 1 (.t 5), .q 62 (.ld 1 false) [(.t 61)], .fa 63 2 1 (.t 5), .q 64 (.ld 1 false) [(.t 63)], .call (some 65) 19 [(.t 57), (.t 58), (.t 60), (.t 62), (.t 64)], .mv 56 (.t 65), .ext 66 0 56, .ext 67 1 56, .as 13 (.t 66), .as 14 (.t 67)] [57, 58, 59, 60, 61, 62, 63, 64, 65, 56, 66, 67])
 (.seq (.s [.mv 69 (.t 0), .mv 70 (.t 1), .fa 71 0 1 (.t 5), .q 72 (.ld 1 false) [(.t 71)], .fa 73 1 1 (.t 5), .q 74 (.ld 1 false) [(.t 73)], .fa 75 2 1 (.t 5), .q 76 (.ld 1 false) [(.t 75)], .call (some 77) 20 [(.t 69), (.t 70), (.t 72), (.t 74), (.t 76)], .mv 68 (.t 77), .ext 78 0 68, .ext 79 1 68, .as 15 (.t 78), .as 16 (.t 79)] [69, 70, 71, 72, 73, 74, 75, 76, 77, 68, 78, 79])
 (.seq (.q [(6, (.ite (.ite (.ite (.ite (.ite (.op (.call false 15) [(.sl 7), (.sl 10)]) (.op (.call false 21) [(.op (.ld 29 true) [(.sl 8)]), (.op (.ld 29 true) [(.sl 11)])]) (.k (.b false))) (.op (.bin .eql) [(.sl 9), (.sl 12)]) (.k (.b false))) (.op (.call false 15) [(.sl 13), (.sl 15)]) (.k (.b false))) (.op (.bin .eql) [(.sl 14), (.sl 16)]) (.k (.b false))) (.op (.call false 12) []) (.k (.b false))))])
 (.ret [6]))))))))⟩
theorem comp5 : compile Try.prog Try.f5 = some code5 := by kernel_rfl
theorem okf5 : okFn Try.prog 5 = true := by kernel_rfl
-- 6: corebank/corebanklaw47.FoureyesTwo
def body6_1 : C :=
 (.seq (.seq (.q [(63, (.op (.bin .lss) [(.sl 11), (.op .len [(.sl 0)])]))])
 (.cond (.sl 63) .skip (.exit 0 [0, 5, 7, 10])))
 (.seq (.blk 1 (.seq (.seq (.q [(76, (.op (.call true 15) [(.op (.slc 35 true true) [(.sl 0), (.sl 11), (.op (.bin .add) [(.sl 11), (.k (.i .i64 1))])]), (.op (.slc 35 true true) [(.sl 7), (.sl 11), (.op (.bin .add) [(.sl 11), (.k (.i .i64 1))])])]))])
 (.cond (.sl 76) (.exit 1 [0, 1, 5, 7, 8, 10, 11]) .skip))
 (.seq (.d [.mv 77 (.t 0), .mv 78 (.t 11), .ix 79 35 (.t 77) (.t 78), .q 80 (.ld 35 true) [(.t 79)], .mv 81 (.t 7), .mv 82 (.t 11), .ix 83 35 (.t 81) (.t 82), .q 84 (.ld 35 true) [(.t 83)], .alo 12 [(.i .i64 0), (.i .i64 0), (.i .i64 0), (.i .i64 0), (.s []), (.s []), (.i .i64 0), (.i .i64 0), (.i .i64 0), (.i .i64 0), (.i .i64 0), (.i .i64 0), (.s []), (.s []), (.s []), (.i .i64 0), (.i .i64 0), (.i .i64 0), (.i .i64 0), (.i .i64 0), (.i .i64 0), (.i .i64 0), (.i .i64 0), (.i .i64 0), (.i .i64 0), (.s []), (.s []), (.s []), (.i .i64 0), (.i .i64 0), (.i .i64 0), (.i .i64 0), (.i .i64 0), (.s []), (.l [])], .alo 13 [(.i .i64 0), (.i .i64 0), (.i .i64 0), (.i .i64 0), (.s []), (.s []), (.i .i64 0), (.i .i64 0), (.i .i64 0), (.i .i64 0), (.i .i64 0), (.i .i64 0), (.s []), (.s []), (.s []), (.i .i64 0), (.i .i64 0), (.i .i64 0), (.i .i64 0), (.i .i64 0), (.i .i64 0), (.i .i64 0), (.i .i64 0), (.i .i64 0), (.i .i64 0), (.s []), (.s []), (.s []), (.i .i64 0), (.i .i64 0), (.i .i64 0), (.i .i64 0), (.i .i64 0), (.s []), (.l [])], .sto 35 (.t 12) (.t 80), .sto 35 (.t 13) (.t 84)] [[], [], [0, 1], [2], [], [], [4, 5], [6], [], [], [8, 3, 0, 1, 2, 3, 8, 9], [9, 7, 10, 0, 1, 2, 3, 4, 5, 6, 7, 8, 9, 10]] [77, 78, 79, 80, 81, 82, 83, 84])
 (.seq (.s [.mv 86 (.t 1), .fa 87 5 1 (.t 13), .q 88 (.ld 1 false) [(.t 87)], .call (some 89) 22 [(.t 86), (.t 88)], .mv 85 (.t 89), .ext 90 0 85, .ext 91 1 85, .alo 14 [(.s []), (.i .i64 0), (.i .i64 0)], .sto 3 (.t 14) (.t 90), .as 15 (.t 91)] [86, 87, 88, 89, 85, 90, 91])
 (.seq (.seq (.q [(153, (.ite (.ite (.ite (.ite (.ite (.ite (.ite (.ite (.ite (.op (.bin .neq) [(.op (.ld 1 false) [(.op (.fa 3 1) [(.sl 12)])]), (.k (.i .i64 1))]) (.k (.b true)) (.op (.bin .neq) [(.op (.ld 1 false) [(.op (.fa 0 1) [(.sl 12)])]), (.op (.ld 1 false) [(.op (.fa 0 1) [(.sl 5)])])])) (.k (.b true)) (.op (.bin .neq) [(.op (.ld 1 false) [(.op (.fa 3 1) [(.sl 13)])]), (.k (.i .i64 2))])) (.k (.b true)) (.op (.bin .eql) [(.op (.ld 1 false) [(.op (.fa 5 1) [(.sl 13)])]), (.op (.ld 1 false) [(.op (.fa 4 1) [(.sl 12)])])])) (.k (.b true)) (.op (.bin .neq) [(.op (.ld 1 false) [(.op (.fa 5 1) [(.sl 13)])]), (.op (.ld 1 false) [(.op (.fa 1 1) [(.sl 5)])])])) (.k (.b true)) (.op (.bin .gtr) [(.op (.ld 1 false) [(.op (.fa 2 1) [(.sl 5)])]), (.op (.ld 1 false) [(.op (.fa 2 1) [(.sl 12)])])])) (.k (.b true)) (.op (.un .not) [(.sl 15)])) (.k (.b true)) (.op (.un .not) [(.op (.call true 23) [(.sl 1), (.op (.ld 1 false) [(.op (.fa 1 1) [(.sl 5)])]), (.k (.i .i64 32))])])) (.k (.b true)) (.op (.bin .lss) [(.op (.ld 1 false) [(.op (.fa 2 1) [(.sl 14)])]), (.op (.call true 24) [(.op (.ld 29 true) [(.op (.fa 6 29) [(.sl 12)])])])])) (.k (.b true)) (.op (.un .not) [(.op (.call true 21) [(.op (.ld 29 true) [(.sl 8)]), (.op (.ld 29 true) [(.op (.fa 6 29) [(.sl 12)])])])])))])
 (.cond (.sl 153) (.seq (.q [(6, (.k (.b false)))])
 (.ret [6])) .skip))
 (.seq (.d [.fa 154 3 1 (.t 12), .q 155 (.ld 1 false) [(.t 154)], .fa 156 5 1 (.t 12), .q 157 (.ld 1 false) [(.t 156)], .fa 158 3 1 (.t 13), .sto 1 (.t 158) (.t 155), .fa 159 5 1 (.t 13), .sto 1 (.t 159) (.t 157)] [[], [0], [], [2], [0, 1], [4, 1, 0, 1], [0, 1, 2, 3, 4, 5], [6, 3, 5, 0, 1, 2, 3, 4, 5]] [154, 155, 156, 157, 158, 159])
 (.seq (.seq (.q [(165, (.op (.un .not) [(.op (.call false 15) [(.op (.bsl 35) [(.op (.ld 35 true) [(.sl 12)])]), (.op (.bsl 35) [(.op (.ld 35 true) [(.sl 13)])])])]))])
 (.cond (.sl 165) (.seq (.q [(6, (.k (.b false)))])
 (.ret [6])) .skip))
 (.q [(10, (.op (.bin .add) [(.sl 10), (.k (.i .i64 1))]))]))))))))
 (.q [(11, (.op (.bin .add) [(.sl 11), (.k (.i .i64 1))]))])))
def code6 : FCode := ⟨3, [.tmp 6],
 (.seq (.s [.box 5 (.t 2), .as 6 (.c (.b false))] [])
 (.seq (.seq (.q [(27, (.ite (.ite (.op (.call false 9) [(.sl 0)]) (.k (.b true)) (.op (.call false 16) [(.sl 1)])) (.k (.b true)) (.op (.bin .gtr) [(.op .slen [(.op (.ld 1 false) [(.op (.fa 1 1) [(.sl 5)])])]), (.k (.i .i64 100))])))])
 (.cond (.sl 27) (.seq (.q [(6, (.op (.call false 12) []))])
 (.ret [6])) .skip))
 (.seq (.s [.mv 30 (.t 0), .mv 31 (.t 1), .fa 32 0 1 (.t 5), .q 33 (.ld 1 false) [(.t 32)], .fa 34 1 1 (.t 5), .q 35 (.ld 1 false) [(.t 34)], .fa 36 2 1 (.t 5), .q 37 (.ld 1 false) [(.t 36)], .call (some 38) 17 [(.t 30), (.t 31), (.t 33), (.t 35), (.t 37)], .mv 29 (.t 38), .ext 39 0 29, .ext 40 1 29, .ext 41 2 29, .alo 8 [(.i .i64 0), (.i .i64 0), (.i .i64 0), (.i .i64 0), (.i .i64 0), (.i .i64 0), (.s []), (.s []), (.s []), (.i .i64 0), (.i .i64 0), (.i .i64 0), (.i .i64 0), (.i .i64 0), (.i .i64 0), (.i .i64 0), (.i .i64 0), (.i .i64 0), (.i .i64 0), (.s []), (.s []), (.s []), (.i .i64 0), (.i .i64 0), (.i .i64 0), (.i .i64 0), (.i .i64 0), (.s []), (.l [])], .as 7 (.t 39), .sto 29 (.t 8) (.t 40), .as 9 (.t 41)] [30, 31, 32, 33, 34, 35, 36, 37, 38, 29, 39, 40, 41])
 (.seq (.seq (.q [(43, (.op (.bin .neq) [(.sl 9), (.k (.i .i64 0))]))])
 (.cond (.sl 43) (.seq (.q [(6, (.ite (.ite (.op (.bin .eql) [(.op .len [(.sl 7)]), (.k (.i .i64 0))]) (.op (.call false 21) [(.op (.ld 29 true) [(.sl 8)]), (.op (.bld [(.i .i64 0), (.i .i64 0), (.i .i64 0), (.i .i64 0), (.i .i64 0), (.i .i64 0), (.s []), (.s []), (.s []), (.i .i64 0), (.i .i64 0), (.i .i64 0), (.i .i64 0), (.i .i64 0), (.i .i64 0), (.i .i64 0), (.i .i64 0), (.i .i64 0), (.i .i64 0), (.s []), (.s []), (.s []), (.i .i64 0), (.i .i64 0), (.i .i64 0), (.i .i64 0), (.i .i64 0), (.s []), (.l [])] []) [])]) (.k (.b false))) (.op (.call false 12) []) (.k (.b false))))])
 (.ret [6])) .skip))
 (.seq (.seq (.q [(59, (.op (.bin .neq) [(.op .len [(.sl 7)]), (.op .len [(.sl 0)])]))])
 (.cond (.sl 59) (.seq (.q [(6, (.k (.b false)))])
 (.ret [6])) .skip))
 (.seq (.q [(10, (.k (.i .i64 0)))])
 (.seq (.seq (.q [(11, (.k (.i .i64 0)))])
 (.blk 0 (.loop [0, 1, 5, 7, 8, 10, 11] body6_1)))
 (.seq (.q [(6, (.ite (.ite (.op (.bin .eql) [(.sl 10), (.k (.i .i64 1))]) (.ite (.ite (.op (.bin .neq) [(.op (.call false 11) [(.sl 0)]), (.k (.i .i64 0))]) (.k (.b true)) (.op (.un .not) [(.op (.call false 25) [(.op (.ld 1 false) [(.op (.fa 1 1) [(.sl 5)])])])])) (.k (.b true)) (.op (.bin .eql) [(.op (.call false 10) [(.sl 7)]), (.k (.i .i64 0))])) (.k (.b false))) (.op (.call false 12) []) (.k (.b false))))])
 (.ret [6])))))))))⟩
theorem comp6 : compile Try.prog Try.f6 = some code6 := by kernel_rfl
theorem okf6 : okFn Try.prog 6 = true := by kernel_rfl
-- 7: corebank/corebanklaw47.FoureyesExpires
def body7_1 : C :=
 (.seq (.seq (.q [(30, (.op (.bin .lss) [(.sl 6), (.op .len [(.sl 5)])]))])
 (.cond (.sl 30) .skip (.exit 0 [])))
 (.seq (.blk 1 (.seq (.q [(47, (.ite (.op (.bin .eql) [(.op (.ld 1 false) [(.op (.fa 3 1) [(.op (.ix 35) [(.sl 5), (.sl 6)])])]), (.k (.i .i64 1))]) (.op (.bin .lss) [(.op (.ld 1 false) [(.op (.fa 2 1) [(.op (.ix 35) [(.sl 5), (.sl 6)])])]), (.sl 1)]) (.k (.b false))))])
 (.cond (.sl 47) (.seq (.q [(4, (.k (.b false)))])
 (.ret [4])) .skip)))
 (.q [(6, (.op (.bin .add) [(.sl 6), (.k (.i .i64 1))]))])))
def code7 : FCode := ⟨2, [.tmp 4],
 (.seq (.q [(4, (.k (.b false)))])
 (.seq (.seq (.q [(8, (.op (.call false 9) [(.sl 0)]))])
 (.cond (.sl 8) (.seq (.q [(4, (.op (.call false 12) []))])
 (.ret [4])) .skip))
 (.seq (.s [.mv 10 (.t 0), .mv 11 (.t 1), .call (some 12) 26 [(.t 10), (.t 11)], .as 5 (.t 12)] [10, 11, 12])
 (.seq (.seq (.q [(26, (.ite (.op (.un .not) [(.op (.call false 15) [(.sl 5), (.op (.call false 27) [(.sl 0), (.sl 1)])])]) (.k (.b true)) (.op (.un .not) [(.op (.call false 28) [(.op (.call false 29) [(.sl 0)]), (.op (.call false 30) [(.sl 0)])])])))])
 (.cond (.sl 26) (.seq (.q [(4, (.k (.b false)))])
 (.ret [4])) .skip))
 (.seq (.seq (.q [(6, (.k (.i .i64 0)))])
 (.blk 0 (.loop [1, 5, 6] body7_1)))
 (.seq (.q [(4, (.op (.call false 12) []))])
 (.ret [4])))))))⟩
theorem comp7 : compile Try.prog Try.f7 = some code7 := by kernel_rfl
theorem okf7 : okFn Try.prog 7 = true := by kernel_rfl
-- 8: corebank/corebanklaw47.FoureyesOnce
def code8 : FCode := ⟨3, [.tmp 6],
 (.seq (.s [.box 5 (.t 2), .as 6 (.c (.b false))] [])
 (.seq (.seq (.q [(38, (.ite (.ite (.ite (.op (.call false 9) [(.sl 0)]) (.k (.b true)) (.op (.call false 16) [(.sl 1)])) (.k (.b true)) (.op (.bin .gtr) [(.op .slen [(.op (.ld 1 false) [(.op (.fa 1 1) [(.sl 5)])])]), (.k (.i .i64 100))])) (.k (.b true)) (.op (.bin .neq) [(.op (.call false 11) [(.sl 0)]), (.k (.i .i64 0))])))])
 (.cond (.sl 38) (.seq (.q [(6, (.op (.call false 12) []))])
 (.ret [6])) .skip))
 (.seq (.s [.mv 41 (.t 0), .mv 42 (.t 1), .fa 43 0 1 (.t 5), .q 44 (.ld 1 false) [(.t 43)], .fa 45 1 1 (.t 5), .q 46 (.ld 1 false) [(.t 45)], .fa 47 2 1 (.t 5), .q 48 (.ld 1 false) [(.t 47)], .call (some 49) 17 [(.t 41), (.t 42), (.t 44), (.t 46), (.t 48)], .mv 40 (.t 49), .ext 50 0 40, .ext 51 1 40, .ext 52 2 40, .alo 8 [(.i .i64 0), (.i .i64 0), (.i .i64 0), (.i .i64 0), (.i .i64 0), (.i .i64 0), (.s []), (.s []), (.s []), (.i .i64 0), (.i .i64 0), (.i .i64 0), (.i .i64 0), (.i .i64 0), (.i .i64 0), (.i .i64 0), (.i .i64 0), (.i .i64 0), (.i .i64 0), (.s []), (.s []), (.s []), (.i .i64 0), (.i .i64 0), (.i .i64 0), (.i .i64 0), (.i .i64 0), (.s []), (.l [])], .as 7 (.t 50), .sto 29 (.t 8) (.t 51), .as 9 (.t 52)] [41, 42, 43, 44, 45, 46, 47, 48, 49, 40, 50, 51, 52, 8])
 (.seq (.s [.mv 54 (.t 0), .mv 55 (.t 1), .fa 56 0 1 (.t 5), .q 57 (.ld 1 false) [(.t 56)], .fa 58 1 1 (.t 5), .q 59 (.ld 1 false) [(.t 58)], .fa 60 2 1 (.t 5), .q 61 (.ld 1 false) [(.t 60)], .call (some 62) 19 [(.t 54), (.t 55), (.t 57), (.t 59), (.t 61)], .mv 53 (.t 62), .ext 63 0 53, .ext 64 1 53, .as 10 (.t 63), .as 11 (.t 64)] [54, 55, 56, 57, 58, 59, 60, 61, 62, 53, 63, 64])
 (.seq (.seq (.q [(66, (.op (.bin .eql) [(.sl 9), (.k (.i .i64 0))]))])
 (.cond (.sl 66) (.seq (.s [.mv 68 (.t 7), .mv 69 (.t 1), .fa 70 0 1 (.t 5), .q 71 (.ld 1 false) [(.t 70)], .fa 72 1 1 (.t 5), .q 73 (.ld 1 false) [(.t 72)], .fa 74 2 1 (.t 5), .q 75 (.ld 1 false) [(.t 74)], .call (some 76) 17 [(.t 68), (.t 69), (.t 71), (.t 73), (.t 75)], .mv 67 (.t 76), .ext 77 0 67, .ext 78 1 67, .ext 79 2 67, .alo 13 [(.i .i64 0), (.i .i64 0), (.i .i64 0), (.i .i64 0), (.i .i64 0), (.i .i64 0), (.s []), (.s []), (.s []), (.i .i64 0), (.i .i64 0), (.i .i64 0), (.i .i64 0), (.i .i64 0), (.i .i64 0), (.i .i64 0), (.i .i64 0), (.i .i64 0), (.i .i64 0), (.s []), (.s []), (.s []), (.i .i64 0), (.i .i64 0), (.i .i64 0), (.i .i64 0), (.i .i64 0), (.s []), (.l [])], .as 12 (.t 77), .sto 29 (.t 13) (.t 78), .as 14 (.t 79)] [68, 69, 70, 71, 72, 73, 74, 75, 76, 67, 77, 78, 79, 13, 12])
 (.seq (.s [.mv 81 (.t 7), .mv 82 (.t 1), .fa 83 0 1 (.t 5), .q 84 (.ld 1 false) [(.t 83)], .fa 85 1 1 (.t 5), .q 86 (.ld 1 false) [(.t 85)], .fa 87 2 1 (.t 5), .q 88 (.ld 1 false) [(.t 87)], .call (some 89) 19 [(.t 81), (.t 82), (.t 84), (.t 86), (.t 88)], .mv 80 (.t 89), .ext 90 0 80, .ext 91 1 80, .as 15 (.t 90), .as 16 (.t 91)] [81, 82, 83, 84, 85, 86, 87, 88, 89, 80, 90, 91, 15])
 (.seq (.q [(97, (.ite (.op (.bin .neq) [(.sl 14), (.k (.i .i64 17))]) (.k (.b true)) (.op (.bin .neq) [(.sl 16), (.k (.i .i64 17))])))])
 (.cond (.sl 97) (.seq (.q [(6, (.k (.b false)))])
 (.ret [6])) .skip)))) .skip))
 (.seq (.seq (.q [(99, (.op (.bin .eql) [(.sl 11), (.k (.i .i64 0))]))])
 (.cond (.sl 99) (.seq (.s [.mv 101 (.t 10), .mv 102 (.t 1), .fa 103 0 1 (.t 5), .q 104 (.ld 1 false) [(.t 103)], .fa 105 1 1 (.t 5), .q 106 (.ld 1 false) [(.t 105)], .fa 107 2 1 (.t 5), .q 108 (.ld 1 false) [(.t 107)], .call (some 109) 17 [(.t 101), (.t 102), (.t 104), (.t 106), (.t 108)], .mv 100 (.t 109), .ext 110 0 100, .ext 111 1 100, .ext 112 2 100, .alo 18 [(.i .i64 0), (.i .i64 0), (.i .i64 0), (.i .i64 0), (.i .i64 0), (.i .i64 0), (.s []), (.s []), (.s []), (.i .i64 0), (.i .i64 0), (.i .i64 0), (.i .i64 0), (.i .i64 0), (.i .i64 0), (.i .i64 0), (.i .i64 0), (.i .i64 0), (.i .i64 0), (.s []), (.s []), (.s []), (.i .i64 0), (.i .i64 0), (.i .i64 0), (.i .i64 0), (.i .i64 0), (.s []), (.l [])], .as 17 (.t 110), .sto 29 (.t 18) (.t 111), .as 19 (.t 112)] [101, 102, 103, 104, 105, 106, 107, 108, 109, 100, 110, 111, 112, 18, 17])
 (.seq (.s [.mv 114 (.t 10), .mv 115 (.t 1), .fa 116 0 1 (.t 5), .q 117 (.ld 1 false) [(.t 116)], .fa 118 1 1 (.t 5), .q 119 (.ld 1 false) [(.t 118)], .fa 120 2 1 (.t 5), .q 121 (.ld 1 false) [(.t 120)], .call (some 122) 19 [(.t 114), (.t 115), (.t 117), (.t 119), (.t 121)], .mv 113 (.t 122), .ext 123 0 113, .ext 124 1 113, .as 20 (.t 123), .as 21 (.t 124)] [114, 115, 116, 117, 118, 119, 120, 121, 122, 113, 123, 124, 20])
 (.seq (.q [(140, (.ite (.ite (.op (.bin .neq) [(.sl 19), (.k (.i .i64 17))]) (.k (.b true)) (.op (.bin .neq) [(.sl 21), (.k (.i .i64 17))])) (.k (.b true)) (.ite (.op (.call false 25) [(.op (.ld 1 false) [(.op (.fa 1 1) [(.sl 5)])])]) (.op (.bin .neq) [(.op (.call false 10) [(.sl 10)]), (.k (.i .i64 0))]) (.k (.b false)))))])
 (.cond (.sl 140) (.seq (.q [(6, (.k (.b false)))])
 (.ret [6])) .skip)))) .skip))
 (.seq (.q [(6, (.ite (.op (.bin .eql) [(.op (.call false 10) [(.op (.call false 26) [(.sl 0), (.op (.ld 1 false) [(.op (.fa 2 1) [(.sl 5)])])])]), (.k (.i .i64 0))]) (.op (.call false 12) []) (.k (.b false))))])
 (.ret [6]))))))))⟩
theorem comp8 : compile Try.prog Try.f8 = some code8 := by kernel_rfl
theorem okf8 : okFn Try.prog 8 = true := by kernel_rfl
-- 9: corebank/corebankref47.Great
def body9_1 : C :=
 (.seq (.seq (.q [(12, (.ite (.op (.bin .lss) [(.sl 3), (.op .len [(.sl 0)])]) (.op (.bin .leq) [(.sl 3), (.k (.i .i64 100))]) (.k (.b false))))])
 (.cond (.sl 12) .skip (.exit 0 [0])))
 (.seq (.blk 1 (.seq (.s [.mv 15 (.t 0), .mv 16 (.t 3), .ix 17 35 (.t 15) (.t 16), .fa 18 6 29 (.t 17), .q 19 (.ld 29 true) [(.t 18)], .alo 4 [(.i .i64 0), (.i .i64 0), (.i .i64 0), (.i .i64 0), (.i .i64 0), (.i .i64 0), (.s []), (.s []), (.s []), (.i .i64 0), (.i .i64 0), (.i .i64 0), (.i .i64 0), (.i .i64 0), (.i .i64 0), (.i .i64 0), (.i .i64 0), (.i .i64 0), (.i .i64 0), (.s []), (.s []), (.s []), (.i .i64 0), (.i .i64 0), (.i .i64 0), (.i .i64 0), (.i .i64 0), (.s []), (.l [])], .sto 29 (.t 4) (.t 19)] [15, 16, 17, 18, 19])
 (.seq (.q [(87, (.ite (.ite (.ite (.ite (.ite (.ite (.ite (.ite (.ite (.op (.bin .gtr) [(.op .slen [(.op (.ld 1 false) [(.op (.fa 4 1) [(.op (.ix 35) [(.sl 0), (.sl 3)])])])]), (.k (.i .i64 100))]) (.k (.b true)) (.op (.bin .gtr) [(.op .slen [(.op (.ld 1 false) [(.op (.fa 5 1) [(.op (.ix 35) [(.sl 0), (.sl 3)])])])]), (.k (.i .i64 100))])) (.k (.b true)) (.op (.bin .gtr) [(.op .slen [(.op (.ld 1 false) [(.op (.fa 6 1) [(.sl 4)])])]), (.k (.i .i64 100))])) (.k (.b true)) (.op (.bin .gtr) [(.op .slen [(.op (.ld 1 false) [(.op (.fa 7 1) [(.sl 4)])])]), (.k (.i .i64 100))])) (.k (.b true)) (.op (.bin .gtr) [(.op .slen [(.op (.ld 1 false) [(.op (.fa 8 1) [(.sl 4)])])]), (.k (.i .i64 3000))])) (.k (.b true)) (.op (.bin .gtr) [(.op .len [(.op (.ld 1 false) [(.op (.fa 28 1) [(.sl 4)])])]), (.k (.i .i64 100))])) (.k (.b true)) (.op (.bin .gtr) [(.op .slen [(.op (.ld 1 false) [(.op (.fa 0 1) [(.op (.fa 21 7) [(.sl 4)])])])]), (.k (.i .i64 100))])) (.k (.b true)) (.op (.bin .gtr) [(.op .slen [(.op (.ld 1 false) [(.op (.fa 6 1) [(.op (.fa 21 7) [(.sl 4)])])])]), (.k (.i .i64 100))])) (.k (.b true)) (.op (.bin .gtr) [(.op .slen [(.op (.ld 1 false) [(.op (.fa 10 1) [(.op (.fa 9 12) [(.sl 4)])])])]), (.k (.i .i64 100))])) (.k (.b true)) (.op (.bin .gtr) [(.op .slen [(.op (.ld 1 false) [(.op (.fa 11 1) [(.op (.fa 9 12) [(.sl 4)])])])]), (.k (.i .i64 100))])))])
 (.cond (.sl 87) (.seq (.q [(2, (.k (.b true)))])
 (.ret [2])) .skip))))
 (.q [(3, (.op (.bin .add) [(.sl 3), (.k (.i .i64 1))]))])))
def code9 : FCode := ⟨1, [.tmp 2],
 (.seq (.q [(2, (.k (.b false)))])
 (.seq (.seq (.q [(3, (.k (.i .i64 0)))])
 (.blk 0 (.loop [0, 3] body9_1)))
 (.seq (.q [(2, (.op (.bin .gtr) [(.op .len [(.sl 0)]), (.k (.i .i64 100))]))])
 (.ret [2]))))⟩
theorem comp9 : compile Try.prog Try.f9 = some code9 := by kernel_rfl
theorem okf9 : okFn Try.prog 9 = true := by kernel_rfl
-- 10: corebank/foureyes.Check
def body10_1 : C :=
 (.seq (.q [(12, (.op (.bin .lss) [(.sl 11), (.sl 10)]))])
 (.seq (.cond (.sl 12) .skip (.exit 0 []))
 (.seq (.blk 1 (.seq (.s [.mv 13 (.t 11), .ix 14 35 (.t 9) (.t 11), .q 15 (.ld 35 true) [(.t 14)], .alo 4 [(.i .i64 0), (.i .i64 0), (.i .i64 0), (.i .i64 0), (.s []), (.s []), (.i .i64 0), (.i .i64 0), (.i .i64 0), (.i .i64 0), (.i .i64 0), (.i .i64 0), (.s []), (.s []), (.s []), (.i .i64 0), (.i .i64 0), (.i .i64 0), (.i .i64 0), (.i .i64 0), (.i .i64 0), (.i .i64 0), (.i .i64 0), (.i .i64 0), (.i .i64 0), (.s []), (.s []), (.s []), (.i .i64 0), (.i .i64 0), (.i .i64 0), (.i .i64 0), (.i .i64 0), (.s []), (.l [])], .as 3 (.t 13), .sto 35 (.t 4) (.t 15)] [13, 14, 15])
 (.seq (.seq (.q [(5, (.op (.call false 31) [(.op (.ld 35 true) [(.sl 4)])]))])
 (.seq (.q [(19, (.op (.bin .neq) [(.sl 5), (.k (.i .i64 0))]))])
 (.cond (.sl 19) (.seq (.q [(2, (.sl 5))])
 (.ret [2])) .skip)))
 (.seq (.seq (.q [(33, (.ite (.op (.bin .gtr) [(.sl 3), (.k (.i .i64 0))]) (.op (.bin .leq) [(.op (.ld 1 false) [(.op (.fa 0 1) [(.sl 4)])]), (.op (.ld 1 false) [(.op (.fa 0 1) [(.op (.ix 35) [(.sl 0), (.op (.bin .sub) [(.sl 3), (.k (.i .i64 1))])])])])]) (.k (.b false))))])
 (.cond (.sl 33) (.seq (.q [(2, (.k (.i .i64 10)))])
 (.ret [2])) .skip))
 (.seq (.q [(43, (.ite (.op (.bin .eql) [(.op (.ld 1 false) [(.op (.fa 3 1) [(.sl 4)])]), (.k (.i .i64 2))]) (.op (.bin .eql) [(.op (.ld 1 false) [(.op (.fa 5 1) [(.sl 4)])]), (.op (.ld 1 false) [(.op (.fa 4 1) [(.sl 4)])])]) (.k (.b false))))])
 (.cond (.sl 43) (.seq (.q [(2, (.k (.i .i64 22)))])
 (.ret [2])) .skip))))))
 (.q [(11, (.op (.bin .add) [(.sl 11), (.k (.i .i64 1))]))]))))
def code10 : FCode := ⟨1, [.tmp 2],
 (.seq (.q [(2, (.k (.i .i64 0)))])
 (.seq (.seq (.q [(8, (.op (.bin .gtr) [(.op .len [(.sl 0)]), (.k (.i .i64 64))]))])
 (.cond (.sl 8) (.seq (.q [(2, (.k (.i .i64 5)))])
 (.ret [2])) .skip))
 (.seq (.seq (.s [.mv 9 (.t 0), .q 10 .len [(.t 9)], .mv 11 (.c (.i .i64 0))] [])
 (.blk 0 (.loop [0, 9, 10, 11] body10_1)))
 (.seq (.q [(2, (.k (.i .i64 0)))])
 (.ret [2])))))⟩
theorem comp10 : compile Try.prog Try.f10 = some code10 := by kernel_rfl
theorem okf10 : okFn Try.prog 10 = true := by kernel_rfl
-- 11: corebank/corebankref47.Check
def body11_1 : C :=
 (.seq (.seq (.q [(11, (.op (.bin .lss) [(.sl 3), (.op .len [(.sl 0)])]))])
 (.cond (.sl 11) .skip (.exit 0 [])))
 (.seq (.blk 1 (.seq (.s [.mv 14 (.t 0), .mv 15 (.t 3), .ix 16 35 (.t 14) (.t 15), .q 17 (.ld 35 true) [(.t 16)], .alo 4 [(.i .i64 0), (.i .i64 0), (.i .i64 0), (.i .i64 0), (.s []), (.s []), (.i .i64 0), (.i .i64 0), (.i .i64 0), (.i .i64 0), (.i .i64 0), (.i .i64 0), (.s []), (.s []), (.s []), (.i .i64 0), (.i .i64 0), (.i .i64 0), (.i .i64 0), (.i .i64 0), (.i .i64 0), (.i .i64 0), (.i .i64 0), (.i .i64 0), (.i .i64 0), (.s []), (.s []), (.s []), (.i .i64 0), (.i .i64 0), (.i .i64 0), (.i .i64 0), (.i .i64 0), (.s []), (.l [])], .sto 35 (.t 4) (.t 17)] [14, 15, 16, 17])
 (.seq (.seq (.q [(49, (.ite (.ite (.ite (.ite (.ite (.op (.bin .lss) [(.op (.ld 1 false) [(.op (.fa 0 1) [(.sl 4)])]), (.k (.i .i64 1))]) (.k (.b true)) (.op (.un .not) [(.op (.call false 32) [(.op (.ld 1 false) [(.op (.fa 1 1) [(.sl 4)])])])])) (.k (.b true)) (.op (.un .not) [(.op (.call false 32) [(.op (.ld 1 false) [(.op (.fa 2 1) [(.sl 4)])])])])) (.k (.b true)) (.op (.bin .gtr) [(.op (.ld 1 false) [(.op (.fa 1 1) [(.sl 4)])]), (.op (.ld 1 false) [(.op (.fa 2 1) [(.sl 4)])])])) (.k (.b true)) (.op (.bin .lss) [(.op (.ld 1 false) [(.op (.fa 3 1) [(.sl 4)])]), (.k (.i .i64 1))])) (.k (.b true)) (.op (.bin .gtr) [(.op (.ld 1 false) [(.op (.fa 3 1) [(.sl 4)])]), (.k (.i .i64 4))])))])
 (.cond (.sl 49) (.seq (.q [(2, (.k (.i .i64 1)))])
 (.ret [2])) .skip))
 (.seq (.seq (.q [(75, (.ite (.ite (.op (.un .not) [(.op (.call false 25) [(.op (.ld 1 false) [(.op (.fa 4 1) [(.sl 4)])])])]) (.k (.b true)) (.ite (.op (.call false 33) [(.op (.ld 1 false) [(.op (.fa 3 1) [(.sl 4)])])]) (.op (.un .not) [(.op (.call false 25) [(.op (.ld 1 false) [(.op (.fa 5 1) [(.sl 4)])])])]) (.k (.b false)))) (.k (.b true)) (.ite (.op (.un .not) [(.op (.call false 33) [(.op (.ld 1 false) [(.op (.fa 3 1) [(.sl 4)])])])]) (.op (.bin .neq) [(.op (.ld 1 false) [(.op (.fa 5 1) [(.sl 4)])]), (.k (.s []))]) (.k (.b false)))))])
 (.cond (.sl 75) (.seq (.q [(2, (.k (.i .i64 4)))])
 (.ret [2])) .skip))
 (.seq (.seq (.q [(88, (.ite (.op (.bin .gtr) [(.sl 3), (.k (.i .i64 0))]) (.op (.bin .leq) [(.op (.ld 1 false) [(.op (.fa 0 1) [(.sl 4)])]), (.op (.ld 1 false) [(.op (.fa 0 1) [(.op (.ix 35) [(.sl 0), (.op (.bin .sub) [(.sl 3), (.k (.i .i64 1))])])])])]) (.k (.b false))))])
 (.cond (.sl 88) (.seq (.q [(2, (.k (.i .i64 10)))])
 (.ret [2])) .skip))
 (.seq (.q [(98, (.ite (.op (.bin .eql) [(.op (.ld 1 false) [(.op (.fa 3 1) [(.sl 4)])]), (.k (.i .i64 2))]) (.op (.bin .eql) [(.op (.ld 1 false) [(.op (.fa 5 1) [(.sl 4)])]), (.op (.ld 1 false) [(.op (.fa 4 1) [(.sl 4)])])]) (.k (.b false))))])
 (.cond (.sl 98) (.seq (.q [(2, (.k (.i .i64 22)))])
 (.ret [2])) .skip)))))))
 (.q [(3, (.op (.bin .add) [(.sl 3), (.k (.i .i64 1))]))])))
def code11 : FCode := ⟨1, [.tmp 2],
 (.seq (.q [(2, (.k (.i .i64 0)))])
 (.seq (.seq (.q [(7, (.op (.bin .gtr) [(.op .len [(.sl 0)]), (.k (.i .i64 64))]))])
 (.cond (.sl 7) (.seq (.q [(2, (.k (.i .i64 5)))])
 (.ret [2])) .skip))
 (.seq (.seq (.q [(3, (.k (.i .i64 0)))])
 (.blk 0 (.loop [0, 3] body11_1)))
 (.seq (.q [(2, (.k (.i .i64 0)))])
 (.ret [2])))))⟩
theorem comp11 : compile Try.prog Try.f11 = some code11 := by kernel_rfl
theorem okf11 : okFn Try.prog 11 = true := by kernel_rfl
-- 12: corebank/corebanklaw47.live
def code12 : FCode := ⟨0, [.tmp 0],
 (.seq (.q [(0, (.k (.b false)))])
 (.seq (.s [.bld 17 [(.s []), (.i .i64 0), (.i .i64 0)] [(0, 1), (1, 1), (2, 1)] [(.c (.s [97, 110, 110])), (.c (.i .i64 32)), (.c (.i .i64 1000))], .bld 18 [(.s []), (.i .i64 0), (.i .i64 0)] [(0, 1), (1, 1), (2, 1)] [(.c (.s [98, 111, 98])), (.c (.i .i64 32)), (.c (.i .i64 1000))], .bld 19 [(.s []), (.i .i64 0), (.i .i64 0)] [(0, 1), (1, 1), (2, 1)] [(.c (.s [99, 97, 108])), (.c (.i .i64 32)), (.c (.i .i64 499))], .bsl 20 50 3 [(.t 17), (.t 18), (.t 19)], .as 1 (.t 20)] [17, 18, 19, 20])
 (.seq (.s [.bld 22 [(.i .i64 0), (.i .i64 0), (.i .i64 0), (.i .i64 0), (.i .i64 0), (.i .i64 0), (.s []), (.s []), (.s []), (.i .i64 0), (.i .i64 0), (.i .i64 0), (.i .i64 0), (.i .i64 0), (.i .i64 0), (.i .i64 0), (.i .i64 0), (.i .i64 0), (.i .i64 0), (.s []), (.s []), (.s []), (.i .i64 0), (.i .i64 0), (.i .i64 0), (.i .i64 0), (.i .i64 0), (.s []), (.l [])] [(0, 1), (3, 1)] [(.c (.i .i64 5)), (.c (.i .i64 500))], .bld 23 [(.i .i64 0), (.i .i64 0), (.i .i64 0), (.i .i64 0), (.s []), (.s []), (.i .i64 0), (.i .i64 0), (.i .i64 0), (.i .i64 0), (.i .i64 0), (.i .i64 0), (.s []), (.s []), (.s []), (.i .i64 0), (.i .i64 0), (.i .i64 0), (.i .i64 0), (.i .i64 0), (.i .i64 0), (.i .i64 0), (.i .i64 0), (.i .i64 0), (.i .i64 0), (.s []), (.s []), (.s []), (.i .i64 0), (.i .i64 0), (.i .i64 0), (.i .i64 0), (.i .i64 0), (.s []), (.l [])] [(0, 1), (1, 1), (2, 1), (3, 1), (4, 1), (6, 29)] [(.c (.i .i64 1)), (.c (.i .i64 5)), (.c (.i .i64 9)), (.c (.i .i64 1)), (.c (.s [97, 110, 110])), (.t 22)], .call (some 24) 13 [(.c (.l [])), (.t 23)], .mv 21 (.t 24), .ext 25 0 21, .ext 26 1 21, .as 2 (.t 25), .as 3 (.t 26)] [22, 23, 24, 21, 25, 26])
 (.seq (.s [.mv 28 (.t 2), .mv 29 (.t 1), .call (some 30) 17 [(.t 28), (.t 29), (.c (.i .i64 1)), (.c (.s [98, 111, 98])), (.c (.i .i64 9))], .mv 27 (.t 30), .ext 31 0 27, .ext 32 1 27, .ext 33 2 27, .alo 5 [(.i .i64 0), (.i .i64 0), (.i .i64 0), (.i .i64 0), (.i .i64 0), (.i .i64 0), (.s []), (.s []), (.s []), (.i .i64 0), (.i .i64 0), (.i .i64 0), (.i .i64 0), (.i .i64 0), (.i .i64 0), (.i .i64 0), (.i .i64 0), (.i .i64 0), (.i .i64 0), (.s []), (.s []), (.s []), (.i .i64 0), (.i .i64 0), (.i .i64 0), (.i .i64 0), (.i .i64 0), (.s []), (.l [])], .as 4 (.t 31), .sto 29 (.t 5) (.t 32), .as 6 (.t 33)] [28, 29, 30, 27, 31, 32, 33])
 (.seq (.s [.mv 35 (.t 2), .mv 36 (.t 1), .call (some 37) 17 [(.t 35), (.t 36), (.c (.i .i64 1)), (.c (.s [97, 110, 110])), (.c (.i .i64 9))], .mv 34 (.t 37), .ext 38 0 34, .ext 39 1 34, .ext 40 2 34, .alo 8 [(.i .i64 0), (.i .i64 0), (.i .i64 0), (.i .i64 0), (.i .i64 0), (.i .i64 0), (.s []), (.s []), (.s []), (.i .i64 0), (.i .i64 0), (.i .i64 0), (.i .i64 0), (.i .i64 0), (.i .i64 0), (.i .i64 0), (.i .i64 0), (.i .i64 0), (.i .i64 0), (.s []), (.s []), (.s []), (.i .i64 0), (.i .i64 0), (.i .i64 0), (.i .i64 0), (.i .i64 0), (.s []), (.l [])], .as 7 (.t 38), .sto 29 (.t 8) (.t 39), .as 9 (.t 40)] [35, 36, 37, 34, 38, 39, 40, 8, 7])
 (.seq (.s [.mv 42 (.t 2), .mv 43 (.t 1), .call (some 44) 17 [(.t 42), (.t 43), (.c (.i .i64 1)), (.c (.s [99, 97, 108])), (.c (.i .i64 9))], .mv 41 (.t 44), .ext 45 0 41, .ext 46 1 41, .ext 47 2 41, .alo 11 [(.i .i64 0), (.i .i64 0), (.i .i64 0), (.i .i64 0), (.i .i64 0), (.i .i64 0), (.s []), (.s []), (.s []), (.i .i64 0), (.i .i64 0), (.i .i64 0), (.i .i64 0), (.i .i64 0), (.i .i64 0), (.i .i64 0), (.i .i64 0), (.i .i64 0), (.i .i64 0), (.s []), (.s []), (.s []), (.i .i64 0), (.i .i64 0), (.i .i64 0), (.i .i64 0), (.i .i64 0), (.s []), (.l [])], .as 10 (.t 45), .sto 29 (.t 11) (.t 46), .as 12 (.t 47)] [42, 43, 44, 41, 45, 46, 47, 11, 10])
 (.seq (.s [.mv 49 (.t 2), .call (some 50) 19 [(.t 49), (.c (.l [])), (.c (.i .i64 1)), (.c (.s [97, 110, 110])), (.c (.i .i64 5))], .mv 48 (.t 50), .ext 51 0 48, .ext 52 1 48, .as 13 (.t 51), .as 14 (.t 52)] [49, 50, 48, 51, 52])
 (.seq (.s [.mv 54 (.t 2), .mv 55 (.t 1), .call (some 56) 19 [(.t 54), (.t 55), (.c (.i .i64 1)), (.c (.s [99, 97, 108])), (.c (.i .i64 10))], .mv 53 (.t 56), .ext 57 0 53, .ext 58 1 53, .as 15 (.t 57), .as 16 (.t 58)] [54, 55, 56, 53, 57, 58, 15])
 (.seq (.seq (.q [(83, (.ite (.ite (.ite (.ite (.ite (.op (.bin .neq) [(.sl 3), (.k (.i .i64 0))]) (.k (.b true)) (.op (.bin .neq) [(.sl 6), (.k (.i .i64 0))])) (.k (.b true)) (.op (.bin .neq) [(.sl 14), (.k (.i .i64 0))])) (.k (.b true)) (.op (.bin .neq) [(.op .len [(.sl 2)]), (.k (.i .i64 1))])) (.k (.b true)) (.op (.bin .neq) [(.op .len [(.sl 4)]), (.k (.i .i64 1))])) (.k (.b true)) (.op (.bin .neq) [(.op .len [(.sl 13)]), (.k (.i .i64 1))])))])
 (.cond (.sl 83) (.seq (.q [(0, (.k (.b false)))])
 (.ret [0])) .skip))
 (.seq (.q [(0, (.ite (.ite (.ite (.ite (.ite (.ite (.ite (.ite (.ite (.op (.bin .eql) [(.op (.ld 1 false) [(.op (.fa 3 1) [(.op (.ix 35) [(.sl 4), (.k (.i .i64 0))])])]), (.k (.i .i64 2))]) (.op (.bin .eql) [(.op (.ld 1 false) [(.op (.fa 5 1) [(.op (.ix 35) [(.sl 4), (.k (.i .i64 0))])])]), (.k (.s [98, 111, 98]))]) (.k (.b false))) (.op (.bin .eql) [(.op (.ld 1 false) [(.op (.fa 3 1) [(.sl 5)])]), (.k (.i .i64 500))]) (.k (.b false))) (.op (.bin .eql) [(.sl 9), (.k (.i .i64 22))]) (.k (.b false))) (.op (.bin .eql) [(.sl 12), (.k (.i .i64 21))]) (.k (.b false))) (.op (.bin .eql) [(.op (.ld 1 false) [(.op (.fa 3 1) [(.op (.ix 35) [(.sl 13), (.k (.i .i64 0))])])]), (.k (.i .i64 3))]) (.k (.b false))) (.op (.bin .eql) [(.sl 16), (.k (.i .i64 23))]) (.k (.b false))) (.op (.bin .eql) [(.op .len [(.op (.call false 29) [(.sl 2)])]), (.k (.i .i64 1))]) (.k (.b false))) (.op (.bin .eql) [(.op .len [(.op (.call false 29) [(.sl 4)])]), (.k (.i .i64 0))]) (.k (.b false))) (.op (.bin .eql) [(.op (.call false 10) [(.sl 4)]), (.k (.i .i64 0))]) (.k (.b false))))])
 (.ret [0])))))))))))⟩
theorem comp12 : compile Try.prog Try.f12 = some code12 := by kernel_rfl
theorem okf12 : okFn Try.prog 12 = true := by kernel_rfl
-- 13: corebank/foureyes.Propose
def code13 : FCode := ⟨2, [.tmp 4, .tmp 5],
 (.seq (.s [.box 3 (.t 1), .as 4 (.c (.ow 35 [])), .as 5 (.c (.i .i64 0))] [])
 (.seq (.blk 0 (.seq (.q [(6, (.ite (.ite (.op (.bin .neq) [(.op (.call false 10) [(.sl 0)]), (.k (.i .i64 0))]) (.k (.b true)) (.op (.bin .neq) [(.op (.call false 10) [(.op (.bsl 35) [(.op (.ld 35 true) [(.sl 3)])])]), (.k (.i .i64 0))])) (.k (.b true)) (.op (.bin .neq) [(.op (.ld 1 false) [(.op (.fa 3 1) [(.sl 3)])]), (.k (.i .i64 1))])))])
 (.cond (.sl 6) (.seq (.s [.as 4 (.c (.ow 35 [])), .as 5 (.c (.i .i64 1))] [])
 (.ret [4, 5])) (.seq (.q [(21, (.ite (.op (.bin .gtr) [(.op .len [(.sl 0)]), (.k (.i .i64 0))]) (.op (.bin .leq) [(.op (.ld 1 false) [(.op (.fa 0 1) [(.sl 3)])]), (.op (.ld 1 false) [(.op (.fa 0 1) [(.op (.ix 35) [(.sl 0), (.op (.bin .sub) [(.op .len [(.sl 0)]), (.k (.i .i64 1))])])])])]) (.k (.b false))))])
 (.cond (.sl 21) (.seq (.s [.as 4 (.c (.ow 35 [])), .as 5 (.c (.i .i64 10))] [])
 (.ret [4, 5])) (.seq (.q [(37, (.op (.bin .geq) [(.op .len [(.sl 0)]), (.k (.i .i64 64))]))])
 (.cond (.sl 37) (.seq (.s [.as 4 (.c (.ow 35 [])), .as 5 (.c (.i .i64 5))] [])
 (.ret [4, 5])) .skip)))))))
 (.seq (.s [.fa 41 6 29 (.t 3), .q 42 (.ld 29 true) [(.t 41)], .call (some 43) 34 [(.t 42)], .fa 44 6 29 (.t 3), .sto 29 (.t 44) (.t 43)] [41, 42, 43, 44])
 (.seq (.d [.mv 45 (.t 0), .call (some 46) 35 [(.t 45)], .q 47 (.ld 35 true) [(.t 3)], .bsl 48 35 35 [(.t 47)], .app 49 35 35 368 (.t 46) (.t 48), .as 4 (.t 49), .as 5 (.c (.i .i64 0))] [[], [0], [], [2], [1, 3, 1], [4, 4, 0, 1, 2, 3, 4], [5, 0, 1, 2, 3, 4, 5]] [45, 46, 47, 48, 49])
 (.ret [4, 5])))))⟩
theorem comp13 : compile Try.prog Try.f13 = some code13 := by kernel_rfl
theorem okf13 : okFn Try.prog 13 = true := by kernel_rfl
-- 14: corebank/corebankref47.Propose
def code14 : FCode := ⟨2, [.tmp 4, .tmp 5],
 (.seq (.s [.box 3 (.t 1), .as 4 (.c (.ow 35 [])), .as 5 (.c (.i .i64 0))] [])
 (.seq (.seq (.q [(19, (.ite (.ite (.op (.bin .neq) [(.op (.call false 11) [(.sl 0)]), (.k (.i .i64 0))]) (.k (.b true)) (.op (.bin .neq) [(.op (.call false 11) [(.op (.bsl 35) [(.op (.ld 35 true) [(.sl 3)])])]), (.k (.i .i64 0))])) (.k (.b true)) (.op (.bin .neq) [(.op (.ld 1 false) [(.op (.fa 3 1) [(.sl 3)])]), (.k (.i .i64 1))])))])
 (.cond (.sl 19) (.seq (.s [.as 4 (.c (.ow 35 [])), .as 5 (.c (.i .i64 1))] [])
 (.ret [4, 5])) .skip))
 (.seq (.seq (.q [(34, (.ite (.op (.bin .gtr) [(.op .len [(.sl 0)]), (.k (.i .i64 0))]) (.op (.bin .leq) [(.op (.ld 1 false) [(.op (.fa 0 1) [(.sl 3)])]), (.op (.ld 1 false) [(.op (.fa 0 1) [(.op (.ix 35) [(.sl 0), (.op (.bin .sub) [(.op .len [(.sl 0)]), (.k (.i .i64 1))])])])])]) (.k (.b false))))])
 (.cond (.sl 34) (.seq (.s [.as 4 (.c (.ow 35 [])), .as 5 (.c (.i .i64 10))] [])
 (.ret [4, 5])) .skip))
 (.seq (.seq (.q [(37, (.op (.bin .geq) [(.op .len [(.sl 0)]), (.k (.i .i64 64))]))])
 (.cond (.sl 37) (.seq (.s [.as 4 (.c (.ow 35 [])), .as 5 (.c (.i .i64 5))] [])
 (.ret [4, 5])) .skip))
 (.seq (.d [.bsl 38 35 35 [], .mv 39 (.t 0), .app 40 35 35 368 (.t 38) (.t 39), .q 41 (.ld 35 true) [(.t 3)], .bsl 42 35 35 [(.t 41)], .app 43 35 35 368 (.t 40) (.t 42), .as 4 (.t 43), .as 5 (.c (.i .i64 0))] [[], [], [0, 1], [], [3], [2, 4, 2], [5, 5, 0, 1, 2, 3, 4, 5], [6, 0, 1, 2, 3, 4, 5, 6]] [38, 39, 40, 41, 42, 43])
 (.ret [4, 5]))))))⟩
theorem comp14 : compile Try.prog Try.f14 = some code14 := by kernel_rfl
theorem okf14 : okFn Try.prog 14 = true := by kernel_rfl
-- 15: corebank/corebankref47.SameAll
def body15_1 : C :=
 (.seq (.seq (.q [(14, (.op (.bin .lss) [(.sl 5), (.op .len [(.sl 0)])]))])
 (.cond (.sl 14) .skip (.exit 0 [])))
 (.seq (.blk 1 (.seq (.q [(106, (.ite (.ite (.ite (.ite (.ite (.ite (.op (.bin .neq) [(.op (.ld 1 false) [(.op (.fa 0 1) [(.op (.ix 35) [(.sl 0), (.sl 5)])])]), (.op (.ld 1 false) [(.op (.fa 0 1) [(.op (.ix 35) [(.sl 1), (.sl 5)])])])]) (.k (.b true)) (.op (.bin .neq) [(.op (.ld 1 false) [(.op (.fa 1 1) [(.op (.ix 35) [(.sl 0), (.sl 5)])])]), (.op (.ld 1 false) [(.op (.fa 1 1) [(.op (.ix 35) [(.sl 1), (.sl 5)])])])])) (.k (.b true)) (.op (.bin .neq) [(.op (.ld 1 false) [(.op (.fa 2 1) [(.op (.ix 35) [(.sl 0), (.sl 5)])])]), (.op (.ld 1 false) [(.op (.fa 2 1) [(.op (.ix 35) [(.sl 1), (.sl 5)])])])])) (.k (.b true)) (.op (.bin .neq) [(.op (.ld 1 false) [(.op (.fa 3 1) [(.op (.ix 35) [(.sl 0), (.sl 5)])])]), (.op (.ld 1 false) [(.op (.fa 3 1) [(.op (.ix 35) [(.sl 1), (.sl 5)])])])])) (.k (.b true)) (.op (.bin .neq) [(.op (.ld 1 false) [(.op (.fa 4 1) [(.op (.ix 35) [(.sl 0), (.sl 5)])])]), (.op (.ld 1 false) [(.op (.fa 4 1) [(.op (.ix 35) [(.sl 1), (.sl 5)])])])])) (.k (.b true)) (.op (.bin .neq) [(.op (.ld 1 false) [(.op (.fa 5 1) [(.op (.ix 35) [(.sl 0), (.sl 5)])])]), (.op (.ld 1 false) [(.op (.fa 5 1) [(.op (.ix 35) [(.sl 1), (.sl 5)])])])])) (.k (.b true)) (.op (.un .not) [(.op (.call true 21) [(.op (.ld 29 true) [(.op (.fa 6 29) [(.op (.ix 35) [(.sl 0), (.sl 5)])])]), (.op (.ld 29 true) [(.op (.fa 6 29) [(.op (.ix 35) [(.sl 1), (.sl 5)])])])])])))])
 (.cond (.sl 106) (.seq (.q [(4, (.k (.b false)))])
 (.ret [4])) .skip)))
 (.q [(5, (.op (.bin .add) [(.sl 5), (.k (.i .i64 1))]))])))
def code15 : FCode := ⟨2, [.tmp 4],
 (.seq (.q [(4, (.k (.b false)))])
 (.seq (.seq (.q [(10, (.op (.bin .neq) [(.op .len [(.sl 0)]), (.op .len [(.sl 1)])]))])
 (.cond (.sl 10) (.seq (.q [(4, (.k (.b false)))])
 (.ret [4])) .skip))
 (.seq (.seq (.q [(5, (.k (.i .i64 0)))])
 (.blk 0 (.loop [0, 1, 5] body15_1)))
 (.seq (.q [(4, (.k (.b true)))])
 (.ret [4])))))⟩
theorem comp15 : compile Try.prog Try.f15 = some code15 := by kernel_rfl
theorem okf15 : okFn Try.prog 15 = true := by kernel_rfl
-- 16: corebank/corebankref46.Great
def body16_1 : C :=
 (.seq (.seq (.q [(10, (.op (.bin .lss) [(.sl 3), (.op .len [(.sl 0)])]))])
 (.cond (.sl 10) .skip (.exit 0 [])))
 (.seq (.blk 1 (.seq (.q [(19, (.op (.bin .gtr) [(.op .slen [(.op (.ld 1 false) [(.op (.fa 0 1) [(.op (.ix 3) [(.sl 0), (.sl 3)])])])]), (.k (.i .i64 200))]))])
 (.cond (.sl 19) (.seq (.q [(2, (.k (.b true)))])
 (.ret [2])) .skip)))
 (.q [(3, (.op (.bin .add) [(.sl 3), (.k (.i .i64 1))]))])))
def code16 : FCode := ⟨1, [.tmp 2],
 (.seq (.q [(2, (.k (.b false)))])
 (.seq (.seq (.q [(6, (.op (.bin .gtr) [(.op .len [(.sl 0)]), (.k (.i .i64 40))]))])
 (.cond (.sl 6) (.seq (.q [(2, (.k (.b true)))])
 (.ret [2])) .skip))
 (.seq (.seq (.q [(3, (.k (.i .i64 0)))])
 (.blk 0 (.loop [0, 3] body16_1)))
 (.seq (.q [(2, (.k (.b false)))])
 (.ret [2])))))⟩
theorem comp16 : compile Try.prog Try.f16 = some code16 := by kernel_rfl
theorem okf16 : okFn Try.prog 16 = true := by kernel_rfl
-- 17: corebank/foureyes.Approve
def code17 : FCode := ⟨5, [.tmp 10, .cell 11 29 true, .tmp 12],
 (.seq (.s [.box 6 (.t 1), .box 8 (.t 3), .as 10 (.c (.ow 35 [])), .alo 11 [(.i .i64 0), (.i .i64 0), (.i .i64 0), (.i .i64 0), (.i .i64 0), (.i .i64 0), (.s []), (.s []), (.s []), (.i .i64 0), (.i .i64 0), (.i .i64 0), (.i .i64 0), (.i .i64 0), (.i .i64 0), (.i .i64 0), (.i .i64 0), (.i .i64 0), (.i .i64 0), (.s []), (.s []), (.s []), (.i .i64 0), (.i .i64 0), (.i .i64 0), (.i .i64 0), (.i .i64 0), (.s []), (.l [])], .as 12 (.c (.i .i64 0))] [])
 (.seq (.s [.mv 13 (.t 0), .mv 14 (.t 2), .q 15 (.ld 1 false) [(.t 8)], .mv 16 (.t 4), .mkf 17 (.func 37) 0 [(.t 6), (.t 8)], .call (some 18) 36 [(.t 13), (.t 14), (.t 15), (.t 16), (.c (.i .i64 2)), (.t 17)], .ext 19 0 18, .ext 20 1 18, .ext 21 2 18, .as 10 (.t 19), .sto 29 (.t 11) (.t 20), .as 12 (.t 21)] [13, 14, 15, 16, 17, 18, 19, 20, 21])
 (.ret [10, 11, 12])))⟩
theorem comp17 : compile Try.prog Try.f17 = some code17 := by kernel_rfl
theorem okf17 : okFn Try.prog 17 = true := by kernel_rfl
-- 18: corebank/corebankref47.Approve
def code18 : FCode := ⟨5, [.tmp 10, .cell 11 29 true, .tmp 12],
 (.seq (.s [.as 10 (.c (.ow 35 [])), .alo 11 [(.i .i64 0), (.i .i64 0), (.i .i64 0), (.i .i64 0), (.i .i64 0), (.i .i64 0), (.s []), (.s []), (.s []), (.i .i64 0), (.i .i64 0), (.i .i64 0), (.i .i64 0), (.i .i64 0), (.i .i64 0), (.i .i64 0), (.i .i64 0), (.i .i64 0), (.i .i64 0), (.s []), (.s []), (.s []), (.i .i64 0), (.i .i64 0), (.i .i64 0), (.i .i64 0), (.i .i64 0), (.s []), (.l [])], .as 12 (.c (.i .i64 0))] [])
 (.seq (.q [(13, (.op (.ext 0) [(.op (.call false 41) [(.sl 0), (.sl 2), (.sl 4)])])), (14, (.op (.ext 1) [(.op (.call false 41) [(.sl 0), (.sl 2), (.sl 4)])]))])
 (.seq (.seq (.q [(25, (.op (.bin .neq) [(.sl 14), (.k (.i .i64 0))]))])
 (.cond (.sl 25) (.seq (.s [.bld 26 [(.i .i64 0), (.i .i64 0), (.i .i64 0), (.i .i64 0), (.i .i64 0), (.i .i64 0), (.s []), (.s []), (.s []), (.i .i64 0), (.i .i64 0), (.i .i64 0), (.i .i64 0), (.i .i64 0), (.i .i64 0), (.i .i64 0), (.i .i64 0), (.i .i64 0), (.i .i64 0), (.s []), (.s []), (.s []), (.i .i64 0), (.i .i64 0), (.i .i64 0), (.i .i64 0), (.i .i64 0), (.s []), (.l [])] [] [], .mv 27 (.t 14), .as 10 (.c (.ow 35 [])), .sto 29 (.t 11) (.t 26), .as 12 (.t 27)] [26, 27])
 (.ret [10, 11, 12])) .skip))
 (.seq (.s [.mv 29 (.t 1), .mv 30 (.t 3), .call (some 31) 22 [(.t 29), (.t 30)], .mv 28 (.t 31), .ext 32 0 28, .ext 33 1 28, .alo 15 [(.s []), (.i .i64 0), (.i .i64 0)], .sto 3 (.t 15) (.t 32), .as 16 (.t 33)] [29, 30, 31, 28, 32, 33, 16])
 (.seq (.seq (.q [(37, (.op (.un .not) [(.op (.call false 23) [(.sl 1), (.sl 3), (.k (.i .i64 32))])]))])
 (.cond (.sl 37) (.seq (.s [.bld 38 [(.i .i64 0), (.i .i64 0), (.i .i64 0), (.i .i64 0), (.i .i64 0), (.i .i64 0), (.s []), (.s []), (.s []), (.i .i64 0), (.i .i64 0), (.i .i64 0), (.i .i64 0), (.i .i64 0), (.i .i64 0), (.i .i64 0), (.i .i64 0), (.i .i64 0), (.i .i64 0), (.s []), (.s []), (.s []), (.i .i64 0), (.i .i64 0), (.i .i64 0), (.i .i64 0), (.i .i64 0), (.s []), (.l [])] [] [], .as 10 (.c (.ow 35 [])), .sto 29 (.t 11) (.t 38), .as 12 (.c (.i .i64 21))] [38])
 (.ret [10, 11, 12])) .skip))
 (.seq (.seq (.q [(45, (.op (.bin .eql) [(.op (.ld 1 false) [(.op (.fa 4 1) [(.op (.ix 35) [(.sl 0), (.sl 13)])])]), (.sl 3)]))])
 (.cond (.sl 45) (.seq (.s [.bld 46 [(.i .i64 0), (.i .i64 0), (.i .i64 0), (.i .i64 0), (.i .i64 0), (.i .i64 0), (.s []), (.s []), (.s []), (.i .i64 0), (.i .i64 0), (.i .i64 0), (.i .i64 0), (.i .i64 0), (.i .i64 0), (.i .i64 0), (.i .i64 0), (.i .i64 0), (.i .i64 0), (.s []), (.s []), (.s []), (.i .i64 0), (.i .i64 0), (.i .i64 0), (.i .i64 0), (.i .i64 0), (.s []), (.l [])] [] [], .as 10 (.c (.ow 35 [])), .sto 29 (.t 11) (.t 46), .as 12 (.c (.i .i64 22))] [46])
 (.ret [10, 11, 12])) .skip))
 (.seq (.seq (.q [(55, (.op (.bin .gtr) [(.op (.call true 24) [(.op (.ld 29 true) [(.op (.fa 6 29) [(.op (.ix 35) [(.sl 0), (.sl 13)])])])]), (.op (.ld 1 false) [(.op (.fa 2 1) [(.sl 15)])])]))])
 (.cond (.sl 55) (.seq (.s [.bld 56 [(.i .i64 0), (.i .i64 0), (.i .i64 0), (.i .i64 0), (.i .i64 0), (.i .i64 0), (.s []), (.s []), (.s []), (.i .i64 0), (.i .i64 0), (.i .i64 0), (.i .i64 0), (.i .i64 0), (.i .i64 0), (.i .i64 0), (.i .i64 0), (.i .i64 0), (.i .i64 0), (.s []), (.s []), (.s []), (.i .i64 0), (.i .i64 0), (.i .i64 0), (.i .i64 0), (.i .i64 0), (.s []), (.l [])] [] [], .as 10 (.c (.ow 35 [])), .sto 29 (.t 11) (.t 56), .as 12 (.c (.i .i64 21))] [56])
 (.ret [10, 11, 12])) .skip))
 (.seq (.d [.mv 57 (.t 0), .mv 58 (.t 13), .mv 59 (.t 3), .call (some 60) 42 [(.t 57), (.t 58), (.c (.i .i64 2)), (.t 59)], .mv 61 (.t 0), .mv 62 (.t 13), .ix 63 35 (.t 61) (.t 62), .fa 64 6 29 (.t 63), .q 65 (.ld 29 true) [(.t 64)], .as 10 (.t 60), .sto 29 (.t 11) (.t 65), .as 12 (.c (.i .i64 0))] [[], [], [], [0, 1, 2], [], [], [4, 5], [6], [7], [3, 3, 0, 1, 2, 3], [8, 9, 0, 1, 2, 3, 4, 5, 6, 7, 8, 9], [10, 0, 1, 2, 3, 4, 5, 6, 7, 8, 9, 10]] [57, 58, 59, 60, 61, 62, 63, 64, 65])
 (.ret [10, 11, 12])))))))))⟩
theorem comp18 : compile Try.prog Try.f18 = some code18 := by kernel_rfl
theorem okf18 : okFn Try.prog 18 = true := by kernel_rfl
-- 19: corebank/foureyes.Reject
def code19 : FCode := ⟨5, [.tmp 10, .tmp 11],
 (.seq (.s [.box 6 (.t 1), .box 8 (.t 3), .as 10 (.c (.ow 35 [])), .as 11 (.c (.i .i64 0))] [])
 (.seq (.s [.mv 16 (.t 0), .mv 17 (.t 2), .q 18 (.ld 1 false) [(.t 8)], .mv 19 (.t 4), .mkf 20 (.func 43) 0 [(.t 8), (.t 6)], .call (some 21) 36 [(.t 16), (.t 17), (.t 18), (.t 19), (.c (.i .i64 3)), (.t 20)], .mv 15 (.t 21), .ext 22 0 15, .ext 23 1 15, .ext 24 2 15, .alo 13 [(.i .i64 0), (.i .i64 0), (.i .i64 0), (.i .i64 0), (.i .i64 0), (.i .i64 0), (.s []), (.s []), (.s []), (.i .i64 0), (.i .i64 0), (.i .i64 0), (.i .i64 0), (.i .i64 0), (.i .i64 0), (.i .i64 0), (.i .i64 0), (.i .i64 0), (.i .i64 0), (.s []), (.s []), (.s []), (.i .i64 0), (.i .i64 0), (.i .i64 0), (.i .i64 0), (.i .i64 0), (.s []), (.l [])], .as 12 (.t 22), .sto 29 (.t 13) (.t 23), .as 14 (.t 24)] [16, 17, 18, 19, 20, 21, 15, 22, 23, 24, 13])
 (.seq (.s [.mv 25 (.t 12), .mv 26 (.t 14), .as 10 (.t 25), .as 11 (.t 26)] [25, 26])
 (.ret [10, 11]))))⟩
theorem comp19 : compile Try.prog Try.f19 = some code19 := by kernel_rfl
theorem okf19 : okFn Try.prog 19 = true := by kernel_rfl
-- 20: corebank/corebankref47.Reject
def code20 : FCode := ⟨5, [.tmp 10, .tmp 11],
 (.seq (.s [.as 10 (.c (.ow 35 [])), .as 11 (.c (.i .i64 0))] [])
 (.seq (.q [(12, (.op (.ext 0) [(.op (.call false 41) [(.sl 0), (.sl 2), (.sl 4)])])), (13, (.op (.ext 1) [(.op (.call false 41) [(.sl 0), (.sl 2), (.sl 4)])]))])
 (.seq (.seq (.q [(22, (.op (.bin .neq) [(.sl 13), (.k (.i .i64 0))]))])
 (.cond (.sl 22) (.seq (.s [.mv 23 (.t 13), .as 10 (.c (.ow 35 [])), .as 11 (.t 23)] [23])
 (.ret [10, 11])) .skip))
 (.seq (.seq (.q [(36, (.ite (.op (.bin .neq) [(.op (.ld 1 false) [(.op (.fa 4 1) [(.op (.ix 35) [(.sl 0), (.sl 12)])])]), (.sl 3)]) (.op (.un .not) [(.op (.call false 23) [(.sl 1), (.sl 3), (.k (.i .i64 32))])]) (.k (.b false))))])
 (.cond (.sl 36) (.seq (.s [.as 10 (.c (.ow 35 [])), .as 11 (.c (.i .i64 21))] [])
 (.ret [10, 11])) .skip))
 (.seq (.s [.mv 37 (.t 0), .mv 38 (.t 12), .mv 39 (.t 3), .call (some 40) 42 [(.t 37), (.t 38), (.c (.i .i64 3)), (.t 39)], .as 10 (.t 40), .as 11 (.c (.i .i64 0))] [37, 38, 39, 40])
 (.ret [10, 11]))))))⟩
theorem comp20 : compile Try.prog Try.f20 = some code20 := by kernel_rfl
theorem okf20 : okFn Try.prog 20 = true := by kernel_rfl
-- 21: corebank/corebankref47.SameCommand
def code21 : FCode := ⟨2, [.tmp 4],
 (.seq (.s [.box 2 (.t 0), .box 3 (.t 1), .as 4 (.c (.b false))] [])
 (.seq (.q [(4, (.ite (.ite (.ite (.ite (.ite (.ite (.ite (.ite (.ite (.ite (.ite (.op (.bin .eql) [(.op (.ld 1 false) [(.op (.fa 0 1) [(.sl 2)])]), (.op (.ld 1 false) [(.op (.fa 0 1) [(.sl 3)])])]) (.op (.bin .eql) [(.op (.ld 1 false) [(.op (.fa 1 1) [(.sl 2)])]), (.op (.ld 1 false) [(.op (.fa 1 1) [(.sl 3)])])]) (.k (.b false))) (.op (.bin .eql) [(.op (.ld 1 false) [(.op (.fa 2 1) [(.sl 2)])]), (.op (.ld 1 false) [(.op (.fa 2 1) [(.sl 3)])])]) (.k (.b false))) (.op (.bin .eql) [(.op (.ld 1 false) [(.op (.fa 3 1) [(.sl 2)])]), (.op (.ld 1 false) [(.op (.fa 3 1) [(.sl 3)])])]) (.k (.b false))) (.op (.bin .eql) [(.op (.ld 1 false) [(.op (.fa 4 1) [(.sl 2)])]), (.op (.ld 1 false) [(.op (.fa 4 1) [(.sl 3)])])]) (.k (.b false))) (.op (.bin .eql) [(.op (.ld 1 false) [(.op (.fa 5 1) [(.sl 2)])]), (.op (.ld 1 false) [(.op (.fa 5 1) [(.sl 3)])])]) (.k (.b false))) (.op (.bin .eql) [(.op (.ld 1 false) [(.op (.fa 6 1) [(.sl 2)])]), (.op (.ld 1 false) [(.op (.fa 6 1) [(.sl 3)])])]) (.k (.b false))) (.op (.bin .eql) [(.op (.ld 1 false) [(.op (.fa 7 1) [(.sl 2)])]), (.op (.ld 1 false) [(.op (.fa 7 1) [(.sl 3)])])]) (.k (.b false))) (.op (.bin .eql) [(.op (.ld 1 false) [(.op (.fa 8 1) [(.sl 2)])]), (.op (.ld 1 false) [(.op (.fa 8 1) [(.sl 3)])])]) (.k (.b false))) (.op (.eqa false [1, 1, 1, 1, 1, 1, 1, 1, 1, 1, 2, 2]) [(.op (.ld 12 true) [(.op (.fa 9 12) [(.sl 2)])]), (.op (.ld 12 true) [(.op (.fa 9 12) [(.sl 3)])])]) (.k (.b false))) (.op (.eqa false [2, 1, 1, 1, 1, 1, 2]) [(.op (.ld 7 true) [(.op (.fa 21 7) [(.sl 2)])]), (.op (.ld 7 true) [(.op (.fa 21 7) [(.sl 3)])])]) (.k (.b false))) (.op (.call false 28) [(.op (.ld 1 false) [(.op (.fa 28 1) [(.sl 2)])]), (.op (.ld 1 false) [(.op (.fa 28 1) [(.sl 3)])])]) (.k (.b false))))])
 (.ret [4])))⟩
theorem comp21 : compile Try.prog Try.f21 = some code21 := by kernel_rfl
theorem okf21 : okFn Try.prog 21 = true := by kernel_rfl
-- 22: corebank/corebankref46.Find
def code22 : FCode := ⟨2, [.cell 4 3 true, .tmp 5],
 (.seq (.s [.alo 4 [(.s []), (.i .i64 0), (.i .i64 0)], .as 5 (.c (.b false))] [])
 (.seq (.q [(6, (.op (.call false 44) [(.sl 0), (.sl 1)]))])
 (.seq (.seq (.q [(11, (.op (.bin .lss) [(.sl 6), (.k (.i .i64 0))]))])
 (.cond (.sl 11) (.seq (.s [.bld 12 [(.s []), (.i .i64 0), (.i .i64 0)] [] [], .sto 3 (.t 4) (.t 12), .as 5 (.c (.b false))] [12])
 (.ret [4, 5])) .skip))
 (.seq (.s [.mv 13 (.t 0), .mv 14 (.t 6), .ix 15 3 (.t 13) (.t 14), .q 16 (.ld 3 true) [(.t 15)], .sto 3 (.t 4) (.t 16), .as 5 (.c (.b true))] [13, 14, 15, 16])
 (.ret [4, 5])))))⟩
theorem comp22 : compile Try.prog Try.f22 = some code22 := by kernel_rfl
theorem okf22 : okFn Try.prog 22 = true := by kernel_rfl
-- 23: corebank/corebankref46.Has
def code23 : FCode := ⟨3, [.tmp 6],
 (.seq (.q [(6, (.k (.b false)))])
 (.seq (.s [.mv 10 (.t 0), .mv 11 (.t 1), .call (some 12) 22 [(.t 10), (.t 11)], .mv 9 (.t 12), .ext 13 0 9, .ext 14 1 9, .alo 7 [(.s []), (.i .i64 0), (.i .i64 0)], .sto 3 (.t 7) (.t 13), .as 8 (.t 14)] [10, 11, 12, 9, 13, 14])
 (.seq (.q [(6, (.ite (.ite (.sl 8) (.op (.call false 45) [(.sl 2)]) (.k (.b false))) (.op (.bin .eql) [(.op (.bin .and) [(.op (.ld 1 false) [(.op (.fa 1 1) [(.sl 7)])]), (.sl 2)]), (.sl 2)]) (.k (.b false))))])
 (.ret [6]))))⟩
theorem comp23 : compile Try.prog Try.f23 = some code23 := by kernel_rfl
theorem okf23 : okFn Try.prog 23 = true := by kernel_rfl
-- 24: corebank/corebankref47.Amount
def code24 : FCode := ⟨1, [.tmp 2],
 (.seq (.s [.box 1 (.t 0), .as 2 (.c (.i .i64 0))] [])
 (.seq (.seq (.q [(10, (.ite (.op (.bin .eql) [(.op (.ld 1 false) [(.op (.fa 0 1) [(.sl 1)])]), (.k (.i .i64 13))]) (.k (.b true)) (.op (.bin .eql) [(.op (.ld 1 false) [(.op (.fa 0 1) [(.sl 1)])]), (.k (.i .i64 16))])))])
 (.cond (.sl 10) (.seq (.q [(2, (.op (.ld 1 false) [(.op (.fa 1 1) [(.op (.fa 9 12) [(.sl 1)])])]))])
 (.ret [2])) .skip))
 (.seq (.seq (.q [(16, (.op (.bin .eql) [(.op (.ld 1 false) [(.op (.fa 0 1) [(.sl 1)])]), (.k (.i .i64 26))]))])
 (.cond (.sl 16) (.seq (.q [(2, (.k (.i .i64 1000000000000)))])
 (.ret [2])) .skip))
 (.seq (.q [(2, (.op (.ld 1 false) [(.op (.fa 3 1) [(.sl 1)])]))])
 (.ret [2])))))⟩
theorem comp24 : compile Try.prog Try.f24 = some code24 := by kernel_rfl
theorem okf24 : okFn Try.prog 24 = true := by kernel_rfl
-- 25: corebank/corebankref05.Name
def body25_1 : C :=
 (.seq (.seq (.q [(25, (.op (.bin .lss) [(.sl 3), (.op .slen [(.sl 0)])]))])
 (.cond (.sl 25) .skip (.exit 0 [])))
 (.seq (.blk 1 (.seq (.q [(55, (.ite (.ite (.ite (.op (.bin .lss) [(.op .idx [(.sl 0), (.sl 3)]), (.k (.i .u8 97))]) (.k (.b true)) (.op (.bin .gtr) [(.op .idx [(.sl 0), (.sl 3)]), (.k (.i .u8 122))])) (.ite (.op (.bin .lss) [(.op .idx [(.sl 0), (.sl 3)]), (.k (.i .u8 48))]) (.k (.b true)) (.op (.bin .gtr) [(.op .idx [(.sl 0), (.sl 3)]), (.k (.i .u8 57))])) (.k (.b false))) (.op (.bin .neq) [(.op .idx [(.sl 0), (.sl 3)]), (.k (.i .u8 95))]) (.k (.b false))))])
 (.cond (.sl 55) (.seq (.q [(2, (.k (.b false)))])
 (.ret [2])) .skip)))
 (.q [(3, (.op (.bin .add) [(.sl 3), (.k (.i .i64 1))]))])))
def code25 : FCode := ⟨1, [.tmp 2],
 (.seq (.q [(2, (.k (.b false)))])
 (.seq (.seq (.q [(21, (.ite (.ite (.ite (.op (.bin .lss) [(.op .slen [(.sl 0)]), (.k (.i .i64 1))]) (.k (.b true)) (.op (.bin .gtr) [(.op .slen [(.sl 0)]), (.k (.i .i64 16))])) (.k (.b true)) (.op (.bin .lss) [(.op .idx [(.sl 0), (.k (.i .i64 0))]), (.k (.i .u8 97))])) (.k (.b true)) (.op (.bin .gtr) [(.op .idx [(.sl 0), (.k (.i .i64 0))]), (.k (.i .u8 122))])))])
 (.cond (.sl 21) (.seq (.q [(2, (.k (.b false)))])
 (.ret [2])) .skip))
 (.seq (.seq (.q [(3, (.k (.i .i64 0)))])
 (.blk 0 (.loop [0, 3] body25_1)))
 (.seq (.q [(2, (.k (.b true)))])
 (.ret [2])))))⟩
theorem comp25 : compile Try.prog Try.f25 = some code25 := by kernel_rfl
theorem okf25 : okFn Try.prog 25 = true := by kernel_rfl
-- 26: corebank/foureyes.Expire
def body26_1 : C :=
 (.seq (.q [(13, (.op (.bin .lss) [(.sl 12), (.sl 11)]))])
 (.seq (.cond (.sl 13) .skip (.exit 0 [5]))
 (.seq (.blk 1 (.seq (.s [.mv 14 (.t 12), .ix 15 35 (.t 10) (.t 12), .q 16 (.ld 35 true) [(.t 15)], .alo 7 [(.i .i64 0), (.i .i64 0), (.i .i64 0), (.i .i64 0), (.s []), (.s []), (.i .i64 0), (.i .i64 0), (.i .i64 0), (.i .i64 0), (.i .i64 0), (.i .i64 0), (.s []), (.s []), (.s []), (.i .i64 0), (.i .i64 0), (.i .i64 0), (.i .i64 0), (.i .i64 0), (.i .i64 0), (.i .i64 0), (.i .i64 0), (.i .i64 0), (.i .i64 0), (.s []), (.s []), (.s []), (.i .i64 0), (.i .i64 0), (.i .i64 0), (.i .i64 0), (.i .i64 0), (.s []), (.l [])], .as 6 (.t 14), .sto 35 (.t 7) (.t 16)] [14, 15, 16])
 (.seq (.q [(25, (.ite (.op (.bin .eql) [(.op (.ld 1 false) [(.op (.fa 3 1) [(.sl 7)])]), (.k (.i .i64 1))]) (.op (.bin .lss) [(.op (.ld 1 false) [(.op (.fa 2 1) [(.sl 7)])]), (.sl 1)]) (.k (.b false))))])
 (.cond (.sl 25) (.s [.mv 26 (.t 5), .mv 27 (.t 6), .ix 28 35 (.t 26) (.t 27), .fa 29 3 1 (.t 28), .sto 1 (.t 29) (.c (.i .i64 4))] [26, 27, 28, 29]) .skip))))
 (.q [(12, (.op (.bin .add) [(.sl 12), (.k (.i .i64 1))]))]))))
def code26 : FCode := ⟨2, [.tmp 4],
 (.seq (.s [.as 4 (.c (.ow 35 []))] [])
 (.seq (.s [.mv 8 (.t 0), .call (some 9) 35 [(.t 8)], .as 5 (.t 9)] [8, 9])
 (.seq (.seq (.s [.mv 10 (.t 5), .q 11 .len [(.t 10)], .mv 12 (.c (.i .i64 0))] [])
 (.blk 0 (.loop [1, 5, 10, 11, 12] body26_1)))
 (.seq (.s [.mv 31 (.t 5), .as 4 (.t 31)] [31])
 (.ret [4])))))⟩
theorem comp26 : compile Try.prog Try.f26 = some code26 := by kernel_rfl
theorem okf26 : okFn Try.prog 26 = true := by kernel_rfl
-- 27: corebank/corebankref47.Expire
def body27_1 : C :=
 (.seq (.seq (.q [(13, (.op (.bin .lss) [(.sl 6), (.op .len [(.sl 5)])]))])
 (.cond (.sl 13) .skip (.exit 0 [5])))
 (.seq (.blk 1 (.seq (.q [(30, (.ite (.op (.bin .eql) [(.op (.ld 1 false) [(.op (.fa 3 1) [(.op (.ix 35) [(.sl 5), (.sl 6)])])]), (.k (.i .i64 1))]) (.op (.bin .lss) [(.op (.ld 1 false) [(.op (.fa 2 1) [(.op (.ix 35) [(.sl 5), (.sl 6)])])]), (.sl 1)]) (.k (.b false))))])
 (.cond (.sl 30) (.s [.mv 31 (.t 5), .mv 32 (.t 6), .ix 33 35 (.t 31) (.t 32), .fa 34 3 1 (.t 33), .sto 1 (.t 34) (.c (.i .i64 4))] [31, 32, 33, 34]) .skip)))
 (.q [(6, (.op (.bin .add) [(.sl 6), (.k (.i .i64 1))]))])))
def code27 : FCode := ⟨2, [.tmp 4],
 (.seq (.s [.as 4 (.c (.ow 35 []))] [])
 (.seq (.s [.bsl 7 35 35 [], .mv 8 (.t 0), .app 9 35 35 368 (.t 7) (.t 8), .as 5 (.t 9)] [7, 8, 9])
 (.seq (.seq (.q [(6, (.k (.i .i64 0)))])
 (.blk 0 (.loop [1, 5, 6] body27_1)))
 (.seq (.s [.mv 35 (.t 5), .as 4 (.t 35)] [35])
 (.ret [4])))))⟩
theorem comp27 : compile Try.prog Try.f27 = some code27 := by kernel_rfl
theorem okf27 : okFn Try.prog 27 = true := by kernel_rfl
-- 28: corebank/corebankref05.Ints
def body28_1 : C :=
 (.seq (.seq (.q [(14, (.op (.bin .lss) [(.sl 5), (.op .len [(.sl 0)])]))])
 (.cond (.sl 14) .skip (.exit 0 [])))
 (.seq (.blk 1 (.seq (.q [(25, (.op (.bin .neq) [(.op (.ld 1 false) [(.op (.ix 1) [(.sl 0), (.sl 5)])]), (.op (.ld 1 false) [(.op (.ix 1) [(.sl 1), (.sl 5)])])]))])
 (.cond (.sl 25) (.seq (.q [(4, (.k (.b false)))])
 (.ret [4])) .skip)))
 (.q [(5, (.op (.bin .add) [(.sl 5), (.k (.i .i64 1))]))])))
def code28 : FCode := ⟨2, [.tmp 4],
 (.seq (.q [(4, (.k (.b false)))])
 (.seq (.seq (.q [(10, (.op (.bin .neq) [(.op .len [(.sl 0)]), (.op .len [(.sl 1)])]))])
 (.cond (.sl 10) (.seq (.q [(4, (.k (.b false)))])
 (.ret [4])) .skip))
 (.seq (.seq (.q [(5, (.k (.i .i64 0)))])
 (.blk 0 (.loop [0, 1, 5] body28_1)))
 (.seq (.q [(4, (.k (.b true)))])
 (.ret [4])))))⟩
theorem comp28 : compile Try.prog Try.f28 = some code28 := by kernel_rfl
theorem okf28 : okFn Try.prog 28 = true := by kernel_rfl
-- 29: corebank/foureyes.Open
def body29_1 : C :=
 (.seq (.q [(9, (.op (.bin .lss) [(.sl 8), (.sl 7)]))])
 (.seq (.cond (.sl 9) .skip (.exit 0 [3]))
 (.seq (.blk 1 (.seq (.s [.ix 10 35 (.t 6) (.t 8), .q 11 (.ld 35 true) [(.t 10)], .alo 5 [(.i .i64 0), (.i .i64 0), (.i .i64 0), (.i .i64 0), (.s []), (.s []), (.i .i64 0), (.i .i64 0), (.i .i64 0), (.i .i64 0), (.i .i64 0), (.i .i64 0), (.s []), (.s []), (.s []), (.i .i64 0), (.i .i64 0), (.i .i64 0), (.i .i64 0), (.i .i64 0), (.i .i64 0), (.i .i64 0), (.i .i64 0), (.i .i64 0), (.i .i64 0), (.s []), (.s []), (.s []), (.i .i64 0), (.i .i64 0), (.i .i64 0), (.i .i64 0), (.i .i64 0), (.s []), (.l [])], .sto 35 (.t 5) (.t 11)] [10, 11])
 (.seq (.q [(14, (.op (.bin .eql) [(.op (.ld 1 false) [(.op (.fa 3 1) [(.sl 5)])]), (.k (.i .i64 1))]))])
 (.cond (.sl 14) (.s [.mv 15 (.t 3), .fa 16 0 1 (.t 5), .q 17 (.ld 1 false) [(.t 16)], .bsl 18 3 1 [(.t 17)], .app 19 3 1 8 (.t 15) (.t 18), .as 3 (.t 19)] [15, 16, 17, 18, 19]) .skip))))
 (.q [(8, (.op (.bin .add) [(.sl 8), (.k (.i .i64 1))]))]))))
def code29 : FCode := ⟨1, [.tmp 2],
 (.seq (.s [.as 2 (.c (.ow 3 []))] [])
 (.seq (.s [.as 3 (.c (.ow 3 []))] [])
 (.seq (.seq (.s [.mv 6 (.t 0), .q 7 .len [(.t 6)], .mv 8 (.c (.i .i64 0))] [])
 (.blk 0 (.loop [3, 6, 7, 8] body29_1)))
 (.seq (.s [.mv 21 (.t 3), .as 2 (.t 21)] [21])
 (.ret [2])))))⟩
theorem comp29 : compile Try.prog Try.f29 = some code29 := by kernel_rfl
theorem okf29 : okFn Try.prog 29 = true := by kernel_rfl
-- 30: corebank/corebankref47.Open
def body30_1 : C :=
 (.seq (.seq (.q [(9, (.op (.bin .lss) [(.sl 4), (.op .len [(.sl 0)])]))])
 (.cond (.sl 9) .skip (.exit 0 [3])))
 (.seq (.blk 1 (.seq (.q [(17, (.op (.bin .eql) [(.op (.ld 1 false) [(.op (.fa 3 1) [(.op (.ix 35) [(.sl 0), (.sl 4)])])]), (.k (.i .i64 1))]))])
 (.cond (.sl 17) (.s [.mv 18 (.t 3), .mv 19 (.t 0), .mv 20 (.t 4), .ix 21 35 (.t 19) (.t 20), .fa 22 0 1 (.t 21), .q 23 (.ld 1 false) [(.t 22)], .bsl 24 3 1 [(.t 23)], .app 25 3 1 8 (.t 18) (.t 24), .as 3 (.t 25)] [18, 19, 20, 21, 22, 23, 24, 25]) .skip)))
 (.q [(4, (.op (.bin .add) [(.sl 4), (.k (.i .i64 1))]))])))
def code30 : FCode := ⟨1, [.tmp 2],
 (.seq (.s [.as 2 (.c (.ow 3 []))] [])
 (.seq (.s [.bsl 5 3 1 [], .as 3 (.t 5)] [5])
 (.seq (.seq (.q [(4, (.k (.i .i64 0)))])
 (.blk 0 (.loop [0, 3, 4] body30_1)))
 (.seq (.s [.mv 26 (.t 3), .as 2 (.t 26)] [26])
 (.ret [2])))))⟩
theorem comp30 : compile Try.prog Try.f30 = some code30 := by kernel_rfl
theorem okf30 : okFn Try.prog 30 = true := by kernel_rfl
-- 31: corebank/foureyes.one
def code31 : FCode := ⟨1, [.tmp 2],
 (.seq (.s [.box 1 (.t 0), .as 2 (.c (.i .i64 0))] [])
 (.seq (.s [.as 3 (.c (.f (.func 46) [] []))] [])
 (.seq (.blk 0 (.seq (.q [(4, (.ite (.ite (.ite (.ite (.ite (.op (.bin .lss) [(.op (.ld 1 false) [(.op (.fa 0 1) [(.sl 1)])]), (.k (.i .i64 1))]) (.k (.b true)) (.op (.un .not) [(.op (.callv false) [(.sl 3), (.op (.ld 1 false) [(.op (.fa 1 1) [(.sl 1)])])])])) (.k (.b true)) (.op (.un .not) [(.op (.callv false) [(.sl 3), (.op (.ld 1 false) [(.op (.fa 2 1) [(.sl 1)])])])])) (.k (.b true)) (.op (.bin .gtr) [(.op (.ld 1 false) [(.op (.fa 1 1) [(.sl 1)])]), (.op (.ld 1 false) [(.op (.fa 2 1) [(.sl 1)])])])) (.k (.b true)) (.op (.bin .lss) [(.op (.ld 1 false) [(.op (.fa 3 1) [(.sl 1)])]), (.k (.i .i64 1))])) (.k (.b true)) (.op (.bin .gtr) [(.op (.ld 1 false) [(.op (.fa 3 1) [(.sl 1)])]), (.k (.i .i64 4))])))])
 (.cond (.sl 4) (.seq (.q [(2, (.k (.i .i64 1)))])
 (.ret [2])) (.seq (.q [(39, (.ite (.ite (.op (.un .not) [(.op (.call false 47) [(.op (.ld 1 false) [(.op (.fa 4 1) [(.sl 1)])])])]) (.k (.b true)) (.ite (.op (.call false 48) [(.op (.ld 1 false) [(.op (.fa 3 1) [(.sl 1)])])]) (.op (.un .not) [(.op (.call false 47) [(.op (.ld 1 false) [(.op (.fa 5 1) [(.sl 1)])])])]) (.k (.b false)))) (.k (.b true)) (.ite (.op (.un .not) [(.op (.call false 48) [(.op (.ld 1 false) [(.op (.fa 3 1) [(.sl 1)])])])]) (.op (.bin .neq) [(.op (.ld 1 false) [(.op (.fa 5 1) [(.sl 1)])]), (.k (.s []))]) (.k (.b false)))))])
 (.cond (.sl 39) (.seq (.q [(2, (.k (.i .i64 4)))])
 (.ret [2])) .skip)))))
 (.seq (.q [(2, (.k (.i .i64 0)))])
 (.ret [2])))))⟩
theorem comp31 : compile Try.prog Try.f31 = some code31 := by kernel_rfl
theorem okf31 : okFn Try.prog 31 = true := by kernel_rfl
-- 32: corebank/corebankref04.Valid
def code32 : FCode := ⟨1, [.tmp 2],
 (.seq (.q [(2, (.k (.b false)))])
 (.seq (.q [(2, (.ite (.op (.bin .geq) [(.sl 0), (.k (.i .i64 0))]) (.op (.bin .leq) [(.sl 0), (.k (.i .i64 73048))]) (.k (.b false))))])
 (.ret [2])))⟩
theorem comp32 : compile Try.prog Try.f32 = some code32 := by kernel_rfl
theorem okf32 : okFn Try.prog 32 = true := by kernel_rfl
-- 33: corebank/corebankref47.decided
def code33 : FCode := ⟨1, [.tmp 2],
 (.seq (.q [(2, (.k (.b false)))])
 (.seq (.q [(2, (.ite (.op (.bin .eql) [(.sl 0), (.k (.i .i64 2))]) (.k (.b true)) (.op (.bin .eql) [(.sl 0), (.k (.i .i64 3))])))])
 (.ret [2])))⟩
theorem comp33 : compile Try.prog Try.f33 = some code33 := by kernel_rfl
theorem okf33 : okFn Try.prog 33 = true := by kernel_rfl
-- 34: corebank/foureyes.copied
def code34 : FCode := ⟨1, [.cell 2 29 true],
 (.seq (.s [.box 1 (.t 0), .alo 2 [(.i .i64 0), (.i .i64 0), (.i .i64 0), (.i .i64 0), (.i .i64 0), (.i .i64 0), (.s []), (.s []), (.s []), (.i .i64 0), (.i .i64 0), (.i .i64 0), (.i .i64 0), (.i .i64 0), (.i .i64 0), (.i .i64 0), (.i .i64 0), (.i .i64 0), (.i .i64 0), (.s []), (.s []), (.s []), (.i .i64 0), (.i .i64 0), (.i .i64 0), (.i .i64 0), (.i .i64 0), (.s []), (.l [])]] [])
 (.seq (.s [.fa 3 28 1 (.t 1), .q 4 (.ld 1 false) [(.t 3)], .call (some 5) 49 [(.t 4)], .fa 6 28 1 (.t 1), .sto 1 (.t 6) (.t 5)] [3, 4, 5, 6])
 (.seq (.s [.q 7 (.ld 29 true) [(.t 1)], .sto 29 (.t 2) (.t 7)] [7])
 (.ret [2]))))⟩
theorem comp34 : compile Try.prog Try.f34 = some code34 := by kernel_rfl
theorem okf34 : okFn Try.prog 34 = true := by kernel_rfl
-- 35: corebank/foureyes.clone
def body35_1 : C :=
 (.seq (.q [(10, (.op (.bin .lss) [(.sl 9), (.sl 8)]))])
 (.seq (.cond (.sl 10) .skip (.exit 0 [3]))
 (.seq (.blk 1 (.seq (.q [(4, (.sl 9))])
 (.s [.mv 12 (.t 3), .mv 13 (.t 4), .mv 14 (.t 3), .mv 15 (.t 4), .ix 16 35 (.t 14) (.t 15), .fa 17 6 29 (.t 16), .q 18 (.ld 29 true) [(.t 17)], .call (some 19) 34 [(.t 18)], .ix 20 35 (.t 12) (.t 13), .fa 21 6 29 (.t 20), .sto 29 (.t 21) (.t 19)] [12, 13, 14, 15, 16, 17, 18, 19, 20, 21])))
 (.q [(9, (.op (.bin .add) [(.sl 9), (.k (.i .i64 1))]))]))))
def code35 : FCode := ⟨1, [.tmp 2],
 (.seq (.s [.as 2 (.c (.ow 35 []))] [])
 (.seq (.s [.mv 5 (.t 0), .call (some 6) 50 [(.t 5)], .as 3 (.t 6)] [5, 6])
 (.seq (.seq (.q [(8, (.op .len [(.sl 3)])), (9, (.k (.i .i64 0)))])
 (.blk 0 (.loop [3, 8, 9] body35_1)))
 (.seq (.s [.mv 23 (.t 3), .as 2 (.t 23)] [23])
 (.ret [2])))))⟩
theorem comp35 : compile Try.prog Try.f35 = some code35 := by kernel_rfl
theorem okf35 : okFn Try.prog 35 = true := by kernel_rfl
-- 36: corebank/foureyes.decide
def code36 : FCode := ⟨6, [.tmp 12, .cell 13 29 true, .tmp 14],
 (.seq (.s [.box 7 (.t 1), .as 12 (.c (.ow 35 [])), .alo 13 [(.i .i64 0), (.i .i64 0), (.i .i64 0), (.i .i64 0), (.i .i64 0), (.i .i64 0), (.s []), (.s []), (.s []), (.i .i64 0), (.i .i64 0), (.i .i64 0), (.i .i64 0), (.i .i64 0), (.i .i64 0), (.i .i64 0), (.i .i64 0), (.i .i64 0), (.i .i64 0), (.s []), (.s []), (.s []), (.i .i64 0), (.i .i64 0), (.i .i64 0), (.i .i64 0), (.i .i64 0), (.s []), (.l [])], .as 14 (.c (.i .i64 0))] [])
 (.seq (.s [.mv 18 (.t 0), .mkf 19 (.func 52) 0 [(.t 7)], .call (some 20) 51 [(.t 18), (.t 19)], .as 15 (.t 20)] [18, 19, 20])
 (.seq (.blk 0 (.seq (.q [(21, (.op (.bin .lss) [(.sl 15), (.k (.i .i64 0))]))])
 (.cond (.sl 21) (.seq (.s [.bld 24 [(.i .i64 0), (.i .i64 0), (.i .i64 0), (.i .i64 0), (.i .i64 0), (.i .i64 0), (.s []), (.s []), (.s []), (.i .i64 0), (.i .i64 0), (.i .i64 0), (.i .i64 0), (.i .i64 0), (.i .i64 0), (.i .i64 0), (.i .i64 0), (.i .i64 0), (.i .i64 0), (.s []), (.s []), (.s []), (.i .i64 0), (.i .i64 0), (.i .i64 0), (.i .i64 0), (.i .i64 0), (.s []), (.l [])] [] [], .as 12 (.c (.ow 35 [])), .sto 29 (.t 13) (.t 24), .as 14 (.c (.i .i64 11))] [24])
 (.ret [12, 13, 14])) (.seq (.q [(25, (.op (.bin .neq) [(.op (.ld 1 false) [(.op (.fa 3 1) [(.op (.ix 35) [(.sl 0), (.sl 15)])])]), (.k (.i .i64 1))]))])
 (.cond (.sl 25) (.seq (.s [.bld 32 [(.i .i64 0), (.i .i64 0), (.i .i64 0), (.i .i64 0), (.i .i64 0), (.i .i64 0), (.s []), (.s []), (.s []), (.i .i64 0), (.i .i64 0), (.i .i64 0), (.i .i64 0), (.i .i64 0), (.i .i64 0), (.i .i64 0), (.i .i64 0), (.i .i64 0), (.i .i64 0), (.s []), (.s []), (.s []), (.i .i64 0), (.i .i64 0), (.i .i64 0), (.i .i64 0), (.i .i64 0), (.s []), (.l [])] [] [], .as 12 (.c (.ow 35 [])), .sto 29 (.t 13) (.t 32), .as 14 (.c (.i .i64 17))] [32])
 (.ret [12, 13, 14])) (.seq (.q [(33, (.op (.bin .gtr) [(.sl 3), (.op (.ld 1 false) [(.op (.fa 2 1) [(.op (.ix 35) [(.sl 0), (.sl 15)])])])]))])
 (.cond (.sl 33) (.seq (.s [.bld 41 [(.i .i64 0), (.i .i64 0), (.i .i64 0), (.i .i64 0), (.i .i64 0), (.i .i64 0), (.s []), (.s []), (.s []), (.i .i64 0), (.i .i64 0), (.i .i64 0), (.i .i64 0), (.i .i64 0), (.i .i64 0), (.i .i64 0), (.i .i64 0), (.i .i64 0), (.i .i64 0), (.s []), (.s []), (.s []), (.i .i64 0), (.i .i64 0), (.i .i64 0), (.i .i64 0), (.i .i64 0), (.s []), (.l [])] [] [], .as 12 (.c (.ow 35 [])), .sto 29 (.t 13) (.t 41), .as 14 (.c (.i .i64 23))] [41])
 (.ret [12, 13, 14])) .skip)))))))
 (.seq (.seq (.q [(16, (.op (.callv false) [(.sl 5), (.op (.ld 35 true) [(.op (.ix 35) [(.sl 0), (.sl 15)])])]))])
 (.seq (.q [(49, (.op (.bin .neq) [(.sl 16), (.k (.i .i64 0))]))])
 (.cond (.sl 49) (.seq (.s [.bld 50 [(.i .i64 0), (.i .i64 0), (.i .i64 0), (.i .i64 0), (.i .i64 0), (.i .i64 0), (.s []), (.s []), (.s []), (.i .i64 0), (.i .i64 0), (.i .i64 0), (.i .i64 0), (.i .i64 0), (.i .i64 0), (.i .i64 0), (.i .i64 0), (.i .i64 0), (.i .i64 0), (.s []), (.s []), (.s []), (.i .i64 0), (.i .i64 0), (.i .i64 0), (.i .i64 0), (.i .i64 0), (.s []), (.l [])] [] [], .mv 51 (.t 16), .as 12 (.c (.ow 35 [])), .sto 29 (.t 13) (.t 50), .as 14 (.t 51)] [50, 51])
 (.ret [12, 13, 14])) .skip)))
 (.seq (.s [.mv 52 (.t 0), .call (some 53) 35 [(.t 52)], .as 17 (.t 53)] [52, 53])
 (.seq (.s [.mv 54 (.t 17), .mv 55 (.t 15), .mv 56 (.t 17), .mv 57 (.t 15), .mv 58 (.t 4), .mv 59 (.t 2), .ix 60 35 (.t 54) (.t 55), .fa 61 3 1 (.t 60), .sto 1 (.t 61) (.t 58), .ix 62 35 (.t 56) (.t 57), .fa 63 5 1 (.t 62), .sto 1 (.t 63) (.t 59)] [54, 55, 56, 57, 58, 59, 60, 61, 62, 63])
 (.seq (.s [.mv 64 (.t 17), .mv 65 (.t 0), .mv 66 (.t 15), .ix 67 35 (.t 65) (.t 66), .fa 68 6 29 (.t 67), .q 69 (.ld 29 true) [(.t 68)], .call (some 70) 34 [(.t 69)], .as 12 (.t 64), .sto 29 (.t 13) (.t 70), .as 14 (.c (.i .i64 0))] [64, 65, 66, 67, 68, 69, 70])
 (.ret [12, 13, 14]))))))))⟩
theorem comp36 : compile Try.prog Try.f36 = some code36 := by kernel_rfl
theorem okf36 : okFn Try.prog 36 = true := by kernel_rfl
-- 37: corebank/foureyes.Approve$1
def code37 : FCode := ⟨3, [.tmp 4],
 (.seq (.s [.box 3 (.t 0), .as 4 (.c (.i .i64 0))] [])
 (.seq (.s [.q 8 (.ld 1 false) [(.t 1)], .q 9 (.ld 1 false) [(.t 2)], .call (some 10) 38 [(.t 8), (.t 9)], .mv 7 (.t 10), .ext 11 0 7, .ext 12 1 7, .alo 5 [(.s []), (.i .i64 0), (.i .i64 0)], .sto 3 (.t 5) (.t 11), .as 6 (.t 12)] [8, 9, 10, 7, 11, 12, 6])
 (.seq (.blk 0 (.seq (.q [(13, (.op (.un .not) [(.op (.call false 39) [(.op (.ld 1 false) [(.sl 1)]), (.op (.ld 1 false) [(.sl 2)]), (.k (.i .i64 32))])]))])
 (.cond (.sl 13) (.seq (.q [(4, (.k (.i .i64 21)))])
 (.ret [4])) (.seq (.q [(18, (.op (.bin .eql) [(.op (.ld 1 false) [(.sl 2)]), (.op (.ld 1 false) [(.op (.fa 4 1) [(.sl 3)])])]))])
 (.cond (.sl 18) (.seq (.q [(4, (.k (.i .i64 22)))])
 (.ret [4])) (.seq (.q [(23, (.op (.bin .gtr) [(.op (.call true 40) [(.op (.ld 29 true) [(.op (.fa 6 29) [(.sl 3)])])]), (.op (.ld 1 false) [(.op (.fa 2 1) [(.sl 5)])])]))])
 (.cond (.sl 23) (.seq (.q [(4, (.k (.i .i64 21)))])
 (.ret [4])) .skip)))))))
 (.seq (.q [(4, (.k (.i .i64 0)))])
 (.ret [4])))))⟩
theorem comp37 : compile Try.prog Try.f37 = some code37 := by kernel_rfl
theorem okf37 : okFn Try.prog 37 = true := by kernel_rfl
-- 38: corebank/access.Find
def code38 : FCode := ⟨2, [.cell 4 3 true, .tmp 5],
 (.seq (.s [.alo 4 [(.s []), (.i .i64 0), (.i .i64 0)], .as 5 (.c (.b false))] [])
 (.seq (.q [(6, (.op (.call false 53) [(.sl 0), (.sl 1)]))])
 (.seq (.seq (.q [(11, (.op (.bin .lss) [(.sl 6), (.k (.i .i64 0))]))])
 (.cond (.sl 11) (.seq (.s [.bld 12 [(.s []), (.i .i64 0), (.i .i64 0)] [] [], .sto 3 (.t 4) (.t 12), .as 5 (.c (.b false))] [12])
 (.ret [4, 5])) .skip))
 (.seq (.s [.mv 13 (.t 0), .mv 14 (.t 6), .ix 15 3 (.t 13) (.t 14), .q 16 (.ld 3 true) [(.t 15)], .sto 3 (.t 4) (.t 16), .as 5 (.c (.b true))] [13, 14, 15, 16])
 (.ret [4, 5])))))⟩
theorem comp38 : compile Try.prog Try.f38 = some code38 := by kernel_rfl
theorem okf38 : okFn Try.prog 38 = true := by kernel_rfl
-- 39: corebank/access.Has
def code39 : FCode := ⟨3, [.tmp 6],
 (.seq (.q [(6, (.k (.b false)))])
 (.seq (.s [.mv 10 (.t 0), .mv 11 (.t 1), .call (some 12) 38 [(.t 10), (.t 11)], .mv 9 (.t 12), .ext 13 0 9, .ext 14 1 9, .alo 7 [(.s []), (.i .i64 0), (.i .i64 0)], .sto 3 (.t 7) (.t 13), .as 8 (.t 14)] [10, 11, 12, 9, 13, 14])
 (.seq (.q [(6, (.ite (.ite (.sl 8) (.op (.call false 54) [(.sl 2)]) (.k (.b false))) (.op (.bin .eql) [(.op (.bin .and) [(.op (.ld 1 false) [(.op (.fa 1 1) [(.sl 7)])]), (.sl 2)]), (.sl 2)]) (.k (.b false))))])
 (.ret [6]))))⟩
theorem comp39 : compile Try.prog Try.f39 = some code39 := by kernel_rfl
theorem okf39 : okFn Try.prog 39 = true := by kernel_rfl
-- 40: corebank/foureyes.amount
def code40 : FCode := ⟨1, [.tmp 2],
 (.seq (.s [.box 1 (.t 0), .as 2 (.c (.i .i64 0))] [])
 (.seq (.seq (.q [(4, (.op (.ld 1 false) [(.op (.fa 0 1) [(.sl 1)])]))])
 (.blk 0 (.seq (.seq (.q [(5, (.op (.bin .eql) [(.sl 4), (.k (.i .i64 13))]))])
 (.cond (.sl 5) .skip (.q [(5, (.op (.bin .eql) [(.sl 4), (.k (.i .i64 16))]))])))
 (.cond (.sl 5) (.seq (.q [(2, (.op (.ld 1 false) [(.op (.fa 1 1) [(.op (.fa 9 12) [(.sl 1)])])]))])
 (.ret [2])) (.seq (.q [(11, (.op (.bin .eql) [(.sl 4), (.k (.i .i64 26))]))])
 (.cond (.sl 11) (.seq (.q [(2, (.k (.i .i64 1000000000000)))])
 (.ret [2])) .skip))))))
 (.seq (.q [(2, (.op (.ld 1 false) [(.op (.fa 3 1) [(.sl 1)])]))])
 (.ret [2]))))⟩
theorem comp40 : compile Try.prog Try.f40 = some code40 := by kernel_rfl
theorem okf40 : okFn Try.prog 40 = true := by kernel_rfl
-- 41: corebank/corebankref47.place
def body41_1 : C :=
 (.seq (.seq (.q [(12, (.op (.bin .lss) [(.sl 8), (.op .len [(.sl 0)])]))])
 (.cond (.sl 12) .skip (.exit 0 [])))
 (.seq (.blk 1 (.seq (.seq (.q [(21, (.op (.bin .neq) [(.op (.ld 1 false) [(.op (.fa 0 1) [(.op (.ix 35) [(.sl 0), (.sl 8)])])]), (.sl 1)]))])
 (.cond (.sl 21) (.exit 1 [0, 1, 2, 8]) .skip))
 (.seq (.seq (.q [(27, (.op (.bin .neq) [(.op (.ld 1 false) [(.op (.fa 3 1) [(.op (.ix 35) [(.sl 0), (.sl 8)])])]), (.k (.i .i64 1))]))])
 (.cond (.sl 27) (.seq (.q [(6, (.sl 8)), (7, (.k (.i .i64 17)))])
 (.ret [6, 7])) .skip))
 (.seq (.seq (.q [(35, (.op (.bin .gtr) [(.sl 2), (.op (.ld 1 false) [(.op (.fa 2 1) [(.op (.ix 35) [(.sl 0), (.sl 8)])])])]))])
 (.cond (.sl 35) (.seq (.q [(6, (.sl 8)), (7, (.k (.i .i64 23)))])
 (.ret [6, 7])) .skip))
 (.seq (.q [(6, (.sl 8)), (7, (.k (.i .i64 0)))])
 (.ret [6, 7]))))))
 (.q [(8, (.op (.bin .add) [(.sl 8), (.k (.i .i64 1))]))])))
def code41 : FCode := ⟨3, [.tmp 6, .tmp 7],
 (.seq (.q [(6, (.k (.i .i64 0))), (7, (.k (.i .i64 0)))])
 (.seq (.seq (.q [(8, (.k (.i .i64 0)))])
 (.blk 0 (.loop [0, 1, 2, 8] body41_1)))
 (.seq (.q [(6, (.k (.i .i64 0))), (7, (.k (.i .i64 11)))])
 (.ret [6, 7]))))⟩
theorem comp41 : compile Try.prog Try.f41 = some code41 := by kernel_rfl
theorem okf41 : okFn Try.prog 41 = true := by kernel_rfl
-- 42: corebank/corebankref47.with
def code42 : FCode := ⟨4, [.tmp 8],
 (.seq (.s [.as 8 (.c (.ow 35 []))] [])
 (.seq (.s [.bsl 10 35 35 [], .mv 11 (.t 0), .app 12 35 35 368 (.t 10) (.t 11), .as 9 (.t 12)] [10, 11, 12])
 (.seq (.s [.mv 13 (.t 9), .mv 14 (.t 1), .mv 15 (.t 2), .ix 16 35 (.t 13) (.t 14), .fa 17 3 1 (.t 16), .sto 1 (.t 17) (.t 15)] [13, 14, 15, 16, 17])
 (.seq (.s [.mv 18 (.t 9), .mv 19 (.t 1), .mv 20 (.t 3), .ix 21 35 (.t 18) (.t 19), .fa 22 5 1 (.t 21), .sto 1 (.t 22) (.t 20)] [18, 19, 20, 21, 22])
 (.seq (.s [.mv 23 (.t 9), .as 8 (.t 23)] [23])
 (.ret [8]))))))⟩
theorem comp42 : compile Try.prog Try.f42 = some code42 := by kernel_rfl
theorem okf42 : okFn Try.prog 42 = true := by kernel_rfl
-- 43: corebank/foureyes.Reject$1
def code43 : FCode := ⟨3, [.tmp 4],
 (.seq (.s [.box 3 (.t 0), .as 4 (.c (.i .i64 0))] [])
 (.seq (.seq (.q [(14, (.ite (.op (.bin .neq) [(.op (.ld 1 false) [(.sl 1)]), (.op (.ld 1 false) [(.op (.fa 4 1) [(.sl 3)])])]) (.op (.un .not) [(.op (.call false 39) [(.op (.ld 1 false) [(.sl 2)]), (.op (.ld 1 false) [(.sl 1)]), (.k (.i .i64 32))])]) (.k (.b false))))])
 (.cond (.sl 14) (.seq (.q [(4, (.k (.i .i64 21)))])
 (.ret [4])) .skip))
 (.seq (.q [(4, (.k (.i .i64 0)))])
 (.ret [4]))))⟩
theorem comp43 : compile Try.prog Try.f43 = some code43 := by kernel_rfl
theorem okf43 : okFn Try.prog 43 = true := by kernel_rfl
-- 44: corebank/corebankref46.index
def body44_1 : C :=
 (.seq (.seq (.q [(9, (.op (.bin .lss) [(.sl 5), (.op .len [(.sl 0)])]))])
 (.cond (.sl 9) .skip (.exit 0 [])))
 (.seq (.blk 1 (.seq (.q [(18, (.op (.bin .eql) [(.op (.ld 1 false) [(.op (.fa 0 1) [(.op (.ix 3) [(.sl 0), (.sl 5)])])]), (.sl 1)]))])
 (.cond (.sl 18) (.seq (.q [(4, (.sl 5))])
 (.ret [4])) .skip)))
 (.q [(5, (.op (.bin .add) [(.sl 5), (.k (.i .i64 1))]))])))
def code44 : FCode := ⟨2, [.tmp 4],
 (.seq (.q [(4, (.k (.i .i64 0)))])
 (.seq (.seq (.q [(5, (.k (.i .i64 0)))])
 (.blk 0 (.loop [0, 1, 5] body44_1)))
 (.seq (.q [(4, (.k (.i .i64 (-1))))])
 (.ret [4]))))⟩
theorem comp44 : compile Try.prog Try.f44 = some code44 := by kernel_rfl
theorem okf44 : okFn Try.prog 44 = true := by kernel_rfl
-- 45: corebank/corebankref46.right
def code45 : FCode := ⟨1, [.tmp 2],
 (.seq (.q [(2, (.k (.b false)))])
 (.seq (.q [(2, (.ite (.op (.bin .geq) [(.sl 0), (.k (.i .i64 1))]) (.op (.bin .leq) [(.sl 0), (.k (.i .i64 127))]) (.k (.b false))))])
 (.ret [2])))⟩
theorem comp45 : compile Try.prog Try.f45 = some code45 := by kernel_rfl
theorem okf45 : okFn Try.prog 45 = true := by kernel_rfl
-- 46: corebank/foureyes.one$1
def code46 : FCode := ⟨1, [.tmp 2],
 (.seq (.q [(2, (.k (.b false)))])
 (.seq (.q [(2, (.ite (.op (.bin .geq) [(.sl 0), (.k (.i .i64 0))]) (.op (.bin .leq) [(.sl 0), (.k (.i .i64 73048))]) (.k (.b false))))])
 (.ret [2])))⟩
theorem comp46 : compile Try.prog Try.f46 = some code46 := by kernel_rfl
theorem okf46 : okFn Try.prog 46 = true := by kernel_rfl
-- 47: corebank/foureyes.named
def body47_1 : C :=
 (.seq (.q [(26, (.op (.bin .lss) [(.sl 25), (.sl 24)]))])
 (.seq (.cond (.sl 26) .skip (.exit 0 []))
 (.seq (.blk 1 (.seq (.q [(4, (.op (.ld 1 false) [(.op (.ix 1) [(.sl 23), (.sl 25)])]))])
 (.seq (.q [(46, (.ite (.ite (.ite (.op (.bin .lss) [(.sl 4), (.k (.i .u8 97))]) (.k (.b true)) (.op (.bin .gtr) [(.sl 4), (.k (.i .u8 122))])) (.ite (.op (.bin .lss) [(.sl 4), (.k (.i .u8 48))]) (.k (.b true)) (.op (.bin .gtr) [(.sl 4), (.k (.i .u8 57))])) (.k (.b false))) (.op (.bin .neq) [(.sl 4), (.k (.i .u8 95))]) (.k (.b false))))])
 (.cond (.sl 46) (.seq (.q [(2, (.k (.b false)))])
 (.ret [2])) .skip))))
 (.q [(25, (.op (.bin .add) [(.sl 25), (.k (.i .i64 1))]))]))))
def code47 : FCode := ⟨1, [.tmp 2],
 (.seq (.q [(2, (.k (.b false)))])
 (.seq (.seq (.q [(21, (.ite (.ite (.ite (.op (.bin .eql) [(.sl 0), (.k (.s []))]) (.k (.b true)) (.op (.bin .gtr) [(.op .slen [(.sl 0)]), (.k (.i .i64 16))])) (.k (.b true)) (.op (.bin .lss) [(.op .idx [(.sl 0), (.k (.i .i64 0))]), (.k (.i .u8 97))])) (.k (.b true)) (.op (.bin .gtr) [(.op .idx [(.sl 0), (.k (.i .i64 0))]), (.k (.i .u8 122))])))])
 (.cond (.sl 21) (.seq (.q [(2, (.k (.b false)))])
 (.ret [2])) .skip))
 (.seq (.seq (.s [.mv 22 (.t 0), .s2b 23 5 (.t 22), .q 24 .len [(.t 23)], .mv 25 (.c (.i .i64 0))] [22])
 (.blk 0 (.loop [23, 24, 25] body47_1)))
 (.seq (.q [(2, (.k (.b true)))])
 (.ret [2])))))⟩
theorem comp47 : compile Try.prog Try.f47 = some code47 := by kernel_rfl
theorem okf47 : okFn Try.prog 47 = true := by kernel_rfl
-- 48: corebank/foureyes.decided
def code48 : FCode := ⟨1, [.tmp 2],
 (.seq (.q [(2, (.k (.b false)))])
 (.seq (.q [(2, (.ite (.op (.bin .eql) [(.sl 0), (.k (.i .i64 2))]) (.k (.b true)) (.op (.bin .eql) [(.sl 0), (.k (.i .i64 3))])))])
 (.ret [2])))⟩
theorem comp48 : compile Try.prog Try.f48 = some code48 := by kernel_rfl
theorem okf48 : okFn Try.prog 48 = true := by kernel_rfl
-- 49: slices.Clone[[]int,int] NOT COMPILED
-- 50: slices.Clone[[]corebank/api.Request,corebank/api.Request] NOT COMPILED
-- 51: slices.IndexFunc[[]corebank/api.Request,corebank/api.Request]
def body51_1 : C :=
 (.seq (.q [(9, (.op (.bin .lss) [(.sl 8), (.sl 7)]))])
 (.seq (.cond (.sl 9) .skip (.exit 0 []))
 (.seq (.blk 1 (.seq (.q [(5, (.sl 8))])
 (.seq (.q [(16, (.op (.callv false) [(.sl 1), (.op (.ld 35 true) [(.op (.ix 35) [(.sl 0), (.sl 5)])])]))])
 (.cond (.sl 16) (.seq (.q [(4, (.sl 5))])
 (.ret [4])) .skip))))
 (.q [(8, (.op (.bin .add) [(.sl 8), (.k (.i .i64 1))]))]))))
def code51 : FCode := ⟨2, [.tmp 4],
 (.seq (.q [(4, (.k (.i .i64 0)))])
 (.seq (.seq (.q [(7, (.op .len [(.sl 0)])), (8, (.k (.i .i64 0)))])
 (.blk 0 (.loop [0, 1, 7, 8] body51_1)))
 (.seq (.q [(4, (.k (.i .i64 (-1))))])
 (.ret [4]))))⟩
theorem comp51 : compile Try.prog Try.f51 = some code51 := by kernel_rfl
theorem okf51 : okFn Try.prog 51 = true := by kernel_rfl
-- 52: corebank/foureyes.decide$1
def code52 : FCode := ⟨2, [.tmp 3],
 (.seq (.s [.box 2 (.t 0), .as 3 (.c (.b false))] [])
 (.seq (.q [(3, (.op (.bin .eql) [(.op (.ld 1 false) [(.op (.fa 0 1) [(.sl 2)])]), (.op (.ld 1 false) [(.sl 1)])]))])
 (.ret [3])))⟩
theorem comp52 : compile Try.prog Try.f52 = some code52 := by kernel_rfl
theorem okf52 : okFn Try.prog 52 = true := by kernel_rfl
-- 53: corebank/access.index
def code53 : FCode := ⟨2, [.tmp 4],
 (.seq (.s [.box 3 (.t 1), .as 4 (.c (.i .i64 0))] [])
 (.seq (.s [.mv 5 (.t 0), .mkf 6 (.func 56) 0 [(.t 3)], .call (some 7) 55 [(.t 5), (.t 6)], .as 4 (.t 7)] [5, 6, 7])
 (.ret [4])))⟩
theorem comp53 : compile Try.prog Try.f53 = some code53 := by kernel_rfl
theorem okf53 : okFn Try.prog 53 = true := by kernel_rfl
-- 54: corebank/access.known
def code54 : FCode := ⟨1, [.tmp 2],
 (.seq (.q [(2, (.k (.b false)))])
 (.seq (.q [(2, (.ite (.op (.bin .geq) [(.sl 0), (.k (.i .i64 1))]) (.op (.bin .leq) [(.sl 0), (.k (.i .i64 127))]) (.k (.b false))))])
 (.ret [2])))⟩
theorem comp54 : compile Try.prog Try.f54 = some code54 := by kernel_rfl
theorem okf54 : okFn Try.prog 54 = true := by kernel_rfl
-- 55: slices.IndexFunc[[]corebank/api.User,corebank/api.User]
def body55_1 : C :=
 (.seq (.q [(9, (.op (.bin .lss) [(.sl 8), (.sl 7)]))])
 (.seq (.cond (.sl 9) .skip (.exit 0 []))
 (.seq (.blk 1 (.seq (.q [(5, (.sl 8))])
 (.seq (.q [(16, (.op (.callv false) [(.sl 1), (.op (.ld 3 true) [(.op (.ix 3) [(.sl 0), (.sl 5)])])]))])
 (.cond (.sl 16) (.seq (.q [(4, (.sl 5))])
 (.ret [4])) .skip))))
 (.q [(8, (.op (.bin .add) [(.sl 8), (.k (.i .i64 1))]))]))))
def code55 : FCode := ⟨2, [.tmp 4],
 (.seq (.q [(4, (.k (.i .i64 0)))])
 (.seq (.seq (.q [(7, (.op .len [(.sl 0)])), (8, (.k (.i .i64 0)))])
 (.blk 0 (.loop [0, 1, 7, 8] body55_1)))
 (.seq (.q [(4, (.k (.i .i64 (-1))))])
 (.ret [4]))))⟩
theorem comp55 : compile Try.prog Try.f55 = some code55 := by kernel_rfl
theorem okf55 : okFn Try.prog 55 = true := by kernel_rfl
-- 56: corebank/access.index$1
def code56 : FCode := ⟨2, [.tmp 3],
 (.seq (.s [.box 2 (.t 0), .as 3 (.c (.b false))] [])
 (.seq (.q [(3, (.op (.bin .eql) [(.op (.ld 1 false) [(.op (.fa 0 1) [(.sl 2)])]), (.op (.ld 1 false) [(.sl 1)])]))])
 (.ret [3])))⟩
theorem comp56 : compile Try.prog Try.f56 = some code56 := by kernel_rfl
theorem okf56 : okFn Try.prog 56 = true := by kernel_rfl
/-- All of them. -/
def codes : List (Nat × FCode) := [(2, code2), (3, code3), (4, code4), (5, code5), (6, code6), (7, code7), (8, code8), (9, code9), (10, code10), (11, code11), (12, code12), (13, code13), (14, code14), (15, code15), (16, code16), (17, code17), (18, code18), (19, code19), (20, code20), (21, code21), (22, code22), (23, code23), (24, code24), (25, code25), (26, code26), (27, code27), (28, code28), (29, code29), (30, code30), (31, code31), (32, code32), (33, code33), (34, code34), (35, code35), (36, code36), (37, code37), (38, code38), (39, code39), (40, code40), (41, code41), (42, code42), (43, code43), (44, code44), (45, code45), (46, code46), (47, code47), (48, code48), (51, code51), (52, code52), (53, code53), (54, code54), (55, code55), (56, code56)]
def tab : Nat → Option FCode := tabOf codes
theorem codes_ok : ∀ p ∈ codes, ∃ fn, Try.prog.funcs[p.1]? = some fn ∧ compile Try.prog fn = some p.2 ∧ okFn Try.prog p.1 = true := by
  unfold codes
  simp only [List.forall_mem_cons]
  exact ⟨⟨_, Try.func2, comp2, okf2⟩, ⟨_, Try.func3, comp3, okf3⟩, ⟨_, Try.func4, comp4, okf4⟩, ⟨_, Try.func5, comp5, okf5⟩, ⟨_, Try.func6, comp6, okf6⟩, ⟨_, Try.func7, comp7, okf7⟩, ⟨_, Try.func8, comp8, okf8⟩, ⟨_, Try.func9, comp9, okf9⟩, ⟨_, Try.func10, comp10, okf10⟩, ⟨_, Try.func11, comp11, okf11⟩, ⟨_, Try.func12, comp12, okf12⟩, ⟨_, Try.func13, comp13, okf13⟩, ⟨_, Try.func14, comp14, okf14⟩, ⟨_, Try.func15, comp15, okf15⟩, ⟨_, Try.func16, comp16, okf16⟩, ⟨_, Try.func17, comp17, okf17⟩, ⟨_, Try.func18, comp18, okf18⟩, ⟨_, Try.func19, comp19, okf19⟩, ⟨_, Try.func20, comp20, okf20⟩, ⟨_, Try.func21, comp21, okf21⟩, ⟨_, Try.func22, comp22, okf22⟩, ⟨_, Try.func23, comp23, okf23⟩, ⟨_, Try.func24, comp24, okf24⟩, ⟨_, Try.func25, comp25, okf25⟩, ⟨_, Try.func26, comp26, okf26⟩, ⟨_, Try.func27, comp27, okf27⟩, ⟨_, Try.func28, comp28, okf28⟩, ⟨_, Try.func29, comp29, okf29⟩, ⟨_, Try.func30, comp30, okf30⟩, ⟨_, Try.func31, comp31, okf31⟩, ⟨_, Try.func32, comp32, okf32⟩, ⟨_, Try.func33, comp33, okf33⟩, ⟨_, Try.func34, comp34, okf34⟩, ⟨_, Try.func35, comp35, okf35⟩, ⟨_, Try.func36, comp36, okf36⟩, ⟨_, Try.func37, comp37, okf37⟩, ⟨_, Try.func38, comp38, okf38⟩, ⟨_, Try.func39, comp39, okf39⟩, ⟨_, Try.func40, comp40, okf40⟩, ⟨_, Try.func41, comp41, okf41⟩, ⟨_, Try.func42, comp42, okf42⟩, ⟨_, Try.func43, comp43, okf43⟩, ⟨_, Try.func44, comp44, okf44⟩, ⟨_, Try.func45, comp45, okf45⟩, ⟨_, Try.func46, comp46, okf46⟩, ⟨_, Try.func47, comp47, okf47⟩, ⟨_, Try.func48, comp48, okf48⟩, ⟨_, Try.func51, comp51, okf51⟩, ⟨_, Try.func52, comp52, okf52⟩, ⟨_, Try.func53, comp53, okf53⟩, ⟨_, Try.func54, comp54, okf54⟩, ⟨_, Try.func55, comp55, okf55⟩, ⟨_, Try.func56, comp56, okf56⟩, fun _ h => by cases h⟩
end Go.Proofs.Ythonmlhljdhlbaa
