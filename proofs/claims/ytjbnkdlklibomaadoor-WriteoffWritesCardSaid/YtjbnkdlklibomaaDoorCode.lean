/-
  The code of the functions that the laws reach, as the evaluator runs it: printed by a program of ours off the translation, and held against it by the kernel.
-/
import Derived.Test.YtjbnkdlklibomaaDoorProg
import Derived.Test.YtjbnkdlklibomaaDoorVmN
import Derived.KernelRfl
set_option linter.all false
namespace Go.Proofs.YtjbnkdlklibomaaDoor
open Go.VM
/-- The package variable that the code reads: the classes of arrears. -/
instance glob : Glob := ⟨[(0, [.i .i64 0, .i .i64 30, .i .i64 60, .i .i64 90])]⟩
-- 2: gosem.cut.init
def code2 : FCode := ⟨0, [],
 (.s [.call (some 0) 1 []] [0])⟩
theorem comp2 : compile Tryd.prog Tryd.f2 = some code2 := by kernel_rfl
theorem okf2 : okFn Tryd.prog 2 = true := by kernel_rfl
-- 3: corebank/corebanklaw39.WriteoffWrites
def code3 : FCode := ⟨2, [.tmp 4],
 (.seq (.s [.box 2 (.t 0), .as 4 (.c (.b false))] [])
 (.seq (.seq (.q [(18, (.ite (.op (.un .not) [(.op (.call false 7) [(.op (.ld 25 true) [(.sl 2)])])]) (.k (.b true)) (.op (.bin .neq) [(.op (.call false 8) [(.op (.ld 25 true) [(.sl 2)])]), (.k (.i .i64 0))])))])
 (.cond (.sl 18) (.seq (.q [(4, (.op (.call false 9) []))])
 (.ret [4])) .skip))
 (.seq (.s [.q 21 (.ld 25 true) [(.t 2)], .mv 22 (.t 1), .call (some 23) 10 [(.t 21), (.t 22)], .mv 20 (.t 23), .ext 24 0 20, .ext 25 1 20, .ext 26 2 20, .alo 5 [(.i .i64 0), (.i .i64 0), (.i .i64 0), (.i .i64 0), (.i .i64 0), (.i .i64 0), (.i .i64 0), (.i .i64 0), (.i .i64 0), (.i .i64 0), (.i .i64 0), (.i .i64 0), (.i .i64 0), (.i .i64 0), (.i .i64 0), (.i .i64 0), (.i .i64 0), (.i .i64 0), (.i .i64 0), (.i .i64 0), (.i .i64 0), (.s []), (.s []), (.l []), (.l [])], .sto 25 (.t 5) (.t 24), .as 6 (.t 25), .as 7 (.t 26)] [21, 22, 23, 20, 24, 25, 26])
 (.seq (.s [.q 28 (.ld 25 true) [(.t 2)], .mv 29 (.t 1), .call (some 30) 11 [(.t 28), (.t 29)], .mv 27 (.t 30), .ext 31 0 27, .ext 32 1 27, .ext 33 2 27, .alo 8 [(.i .i64 0), (.i .i64 0), (.i .i64 0), (.i .i64 0), (.i .i64 0), (.i .i64 0), (.i .i64 0), (.i .i64 0), (.i .i64 0), (.i .i64 0), (.i .i64 0), (.i .i64 0), (.i .i64 0), (.i .i64 0), (.i .i64 0), (.i .i64 0), (.i .i64 0), (.i .i64 0), (.i .i64 0), (.i .i64 0), (.i .i64 0), (.s []), (.s []), (.l []), (.l [])], .sto 25 (.t 8) (.t 31), .as 9 (.t 32), .as 10 (.t 33)] [28, 29, 30, 27, 31, 32, 33])
 (.seq (.q [(4, (.ite (.ite (.ite (.op (.call false 12) [(.op (.ld 25 true) [(.sl 5)]), (.op (.ld 25 true) [(.sl 8)])]) (.op (.bin .eql) [(.sl 6), (.sl 9)]) (.k (.b false))) (.op (.bin .eql) [(.sl 7), (.sl 10)]) (.k (.b false))) (.op (.call false 9) []) (.k (.b false))))])
 (.ret [4]))))))⟩
theorem comp3 : compile Tryd.prog Tryd.f3 = some code3 := by kernel_rfl
theorem okf3 : okFn Tryd.prog 3 = true := by kernel_rfl
-- 4: corebank/corebanklaw39.WriteoffRecovers
def code4 : FCode := ⟨3, [.tmp 6],
 (.seq (.s [.box 3 (.t 0), .as 6 (.c (.b false))] [])
 (.seq (.seq (.q [(35, (.ite (.ite (.ite (.ite (.op (.un .not) [(.op (.call false 7) [(.op (.ld 25 true) [(.sl 3)])])]) (.k (.b true)) (.op (.bin .lss) [(.op (.ld 1 false) [(.op (.fa 9 1) [(.sl 3)])]), (.k (.i .i64 0))])) (.k (.b true)) (.op (.bin .gtr) [(.op (.ld 1 false) [(.op (.fa 9 1) [(.sl 3)])]), (.k (.i .i64 1000000000000))])) (.k (.b true)) (.op (.bin .lss) [(.op (.ld 1 false) [(.op (.fa 10 1) [(.sl 3)])]), (.k (.i .i64 0))])) (.k (.b true)) (.op (.bin .gtr) [(.op (.ld 1 false) [(.op (.fa 10 1) [(.sl 3)])]), (.k (.i .i64 1000000000000))])))])
 (.cond (.sl 35) (.seq (.q [(6, (.op (.call false 9) []))])
 (.ret [6])) .skip))
 (.seq (.s [.q 38 (.ld 25 true) [(.t 3)], .mv 39 (.t 1), .mv 40 (.t 2), .call (some 41) 13 [(.t 38), (.t 39), (.t 40)], .mv 37 (.t 41), .ext 42 0 37, .ext 43 1 37, .ext 44 2 37, .alo 7 [(.i .i64 0), (.i .i64 0), (.i .i64 0), (.i .i64 0), (.i .i64 0), (.i .i64 0), (.i .i64 0), (.i .i64 0), (.i .i64 0), (.i .i64 0), (.i .i64 0), (.i .i64 0), (.i .i64 0), (.i .i64 0), (.i .i64 0), (.i .i64 0), (.i .i64 0), (.i .i64 0), (.i .i64 0), (.i .i64 0), (.i .i64 0), (.s []), (.s []), (.l []), (.l [])], .sto 25 (.t 7) (.t 42), .as 8 (.t 43), .as 9 (.t 44)] [38, 39, 40, 41, 37, 42, 43, 44])
 (.seq (.s [.q 46 (.ld 25 true) [(.t 3)], .mv 47 (.t 1), .mv 48 (.t 2), .call (some 49) 14 [(.t 46), (.t 47), (.t 48)], .mv 45 (.t 49), .ext 50 0 45, .ext 51 1 45, .ext 52 2 45, .alo 10 [(.i .i64 0), (.i .i64 0), (.i .i64 0), (.i .i64 0), (.i .i64 0), (.i .i64 0), (.i .i64 0), (.i .i64 0), (.i .i64 0), (.i .i64 0), (.i .i64 0), (.i .i64 0), (.i .i64 0), (.i .i64 0), (.i .i64 0), (.i .i64 0), (.i .i64 0), (.i .i64 0), (.i .i64 0), (.i .i64 0), (.i .i64 0), (.s []), (.s []), (.l []), (.l [])], .sto 25 (.t 10) (.t 50), .as 11 (.t 51), .as 12 (.t 52)] [46, 47, 48, 49, 45, 50, 51, 52])
 (.seq (.q [(6, (.ite (.ite (.ite (.op (.call false 12) [(.op (.ld 25 true) [(.sl 7)]), (.op (.ld 25 true) [(.sl 10)])]) (.op (.bin .eql) [(.sl 8), (.sl 11)]) (.k (.b false))) (.op (.bin .eql) [(.sl 9), (.sl 12)]) (.k (.b false))) (.op (.call false 9) []) (.k (.b false))))])
 (.ret [6]))))))⟩
theorem comp4 : compile Tryd.prog Tryd.f4 = some code4 := by kernel_rfl
theorem okf4 : okFn Tryd.prog 4 = true := by kernel_rfl
-- 5: corebank/corebanklaw39.WriteoffExposure
def body5_1 : C :=
 (.seq (.seq (.q [(11, (.op (.bin .lss) [(.sl 3), (.op .len [(.sl 0)])]))])
 (.cond (.sl 11) .skip (.exit 0 [0])))
 (.seq (.blk 1 (.seq (.q [(27, (.ite (.op (.un .not) [(.op (.call false 7) [(.op (.ld 25 true) [(.op (.ix 25) [(.sl 0), (.sl 3)])])])]) (.k (.b true)) (.op (.bin .neq) [(.op (.call false 8) [(.op (.ld 25 true) [(.op (.ix 25) [(.sl 0), (.sl 3)])])]), (.k (.i .i64 0))])))])
 (.cond (.sl 27) (.seq (.q [(2, (.op (.call false 9) []))])
 (.ret [2])) .skip)))
 (.q [(3, (.op (.bin .add) [(.sl 3), (.k (.i .i64 1))]))])))
def code5 : FCode := ⟨1, [.tmp 2],
 (.seq (.q [(2, (.k (.b false)))])
 (.seq (.seq (.q [(6, (.op (.bin .gtr) [(.op .len [(.sl 0)]), (.k (.i .i64 20))]))])
 (.cond (.sl 6) (.seq (.q [(2, (.op (.call false 9) []))])
 (.ret [2])) .skip))
 (.seq (.seq (.q [(3, (.k (.i .i64 0)))])
 (.blk 0 (.loop [0, 3] body5_1)))
 (.seq (.q [(2, (.ite (.op (.bin .eql) [(.op (.call false 15) [(.sl 0)]), (.op (.call false 16) [(.sl 0)])]) (.op (.call false 9) []) (.k (.b false))))])
 (.ret [2])))))⟩
theorem comp5 : compile Tryd.prog Tryd.f5 = some code5 := by kernel_rfl
theorem okf5 : okFn Tryd.prog 5 = true := by kernel_rfl
-- 6: corebank/corebanklaw39.WriteoffBalances
def code6 : FCode := ⟨3, [.tmp 6],
 (.seq (.s [.box 3 (.t 0), .as 6 (.c (.b false))] [])
 (.seq (.seq (.q [(29, (.ite (.ite (.op (.un .not) [(.op (.call false 7) [(.op (.ld 25 true) [(.sl 3)])])]) (.k (.b true)) (.op (.bin .neq) [(.op (.ld 1 false) [(.op (.fa 10 1) [(.sl 3)])]), (.k (.i .i64 0))])) (.k (.b true)) (.op (.bin .neq) [(.op (.call false 8) [(.op (.ld 25 true) [(.sl 3)])]), (.k (.i .i64 0))])))])
 (.cond (.sl 29) (.seq (.q [(6, (.op (.call false 9) []))])
 (.ret [6])) .skip))
 (.seq (.s [.q 32 (.ld 25 true) [(.t 3)], .mv 33 (.t 1), .call (some 34) 10 [(.t 32), (.t 33)], .mv 31 (.t 34), .ext 35 0 31, .ext 36 1 31, .ext 37 2 31, .alo 7 [(.i .i64 0), (.i .i64 0), (.i .i64 0), (.i .i64 0), (.i .i64 0), (.i .i64 0), (.i .i64 0), (.i .i64 0), (.i .i64 0), (.i .i64 0), (.i .i64 0), (.i .i64 0), (.i .i64 0), (.i .i64 0), (.i .i64 0), (.i .i64 0), (.i .i64 0), (.i .i64 0), (.i .i64 0), (.i .i64 0), (.i .i64 0), (.s []), (.s []), (.l []), (.l [])], .sto 25 (.t 7) (.t 35), .as 8 (.t 36), .as 9 (.t 37)] [32, 33, 34, 31, 35, 36, 37])
 (.seq (.seq (.q [(39, (.op (.bin .neq) [(.sl 9), (.k (.i .i64 0))]))])
 (.cond (.sl 39) (.seq (.q [(6, (.ite (.ite (.op (.bin .eql) [(.sl 8), (.k (.i .i64 0))]) (.op (.call false 12) [(.op (.ld 25 true) [(.sl 7)]), (.op (.bld [(.i .i64 0), (.i .i64 0), (.i .i64 0), (.i .i64 0), (.i .i64 0), (.i .i64 0), (.i .i64 0), (.i .i64 0), (.i .i64 0), (.i .i64 0), (.i .i64 0), (.i .i64 0), (.i .i64 0), (.i .i64 0), (.i .i64 0), (.i .i64 0), (.i .i64 0), (.i .i64 0), (.i .i64 0), (.i .i64 0), (.i .i64 0), (.s []), (.s []), (.l []), (.l [])] []) [])]) (.k (.b false))) (.op (.call false 9) []) (.k (.b false))))])
 (.ret [6])) .skip))
 (.seq (.q [(10, (.op (.call false 15) [(.op (.bsl 25) [(.op (.ld 25 true) [(.sl 3)])])]))])
 (.seq (.seq (.q [(73, (.ite (.ite (.op (.bin .neq) [(.op (.bin .add) [(.sl 8), (.op (.ld 1 false) [(.op (.fa 8 1) [(.sl 3)])])]), (.op (.call false 17) [(.op (.ld 25 true) [(.sl 3)])])]) (.k (.b true)) (.op (.bin .neq) [(.op (.ld 1 false) [(.op (.fa 9 1) [(.sl 7)])]), (.op (.call false 17) [(.op (.ld 25 true) [(.sl 3)])])])) (.k (.b true)) (.op (.bin .neq) [(.op (.call false 15) [(.op (.bsl 25) [(.op (.ld 25 true) [(.sl 7)])])]), (.sl 10)])))])
 (.cond (.sl 73) (.seq (.q [(6, (.k (.b false)))])
 (.ret [6])) .skip))
 (.seq (.seq (.s [.q 75 (.ld 25 true) [(.t 7)], .mv 76 (.t 1), .call (some 77) 10 [(.t 75), (.t 76)], .mv 74 (.t 77), .ext 78 0 74, .ext 79 1 74, .ext 80 2 74, .alo 11 [(.i .i64 0), (.i .i64 0), (.i .i64 0), (.i .i64 0), (.i .i64 0), (.i .i64 0), (.i .i64 0), (.i .i64 0), (.i .i64 0), (.i .i64 0), (.i .i64 0), (.i .i64 0), (.i .i64 0), (.i .i64 0), (.i .i64 0), (.i .i64 0), (.i .i64 0), (.i .i64 0), (.i .i64 0), (.i .i64 0), (.i .i64 0), (.s []), (.s []), (.l []), (.l [])], .sto 25 (.t 11) (.t 78), .as 12 (.t 79), .as 13 (.t 80)] [75, 76, 77, 74, 78, 79, 80, 11, 12])
 (.seq (.q [(82, (.op (.bin .neq) [(.sl 13), (.k (.i .i64 17))]))])
 (.cond (.sl 82) (.seq (.q [(6, (.k (.b false)))])
 (.ret [6])) .skip)))
 (.seq (.seq (.q [(85, (.op (.bin .gtr) [(.op (.ld 1 false) [(.op (.fa 9 1) [(.sl 7)])]), (.k (.i .i64 1000000000000))]))])
 (.cond (.sl 85) (.seq (.q [(6, (.op (.call false 9) []))])
 (.ret [6])) .skip))
 (.seq (.s [.q 88 (.ld 25 true) [(.t 7)], .mv 89 (.t 2), .mv 90 (.t 1), .call (some 91) 13 [(.t 88), (.t 89), (.t 90)], .mv 87 (.t 91), .ext 92 0 87, .ext 93 1 87, .ext 94 2 87, .alo 14 [(.i .i64 0), (.i .i64 0), (.i .i64 0), (.i .i64 0), (.i .i64 0), (.i .i64 0), (.i .i64 0), (.i .i64 0), (.i .i64 0), (.i .i64 0), (.i .i64 0), (.i .i64 0), (.i .i64 0), (.i .i64 0), (.i .i64 0), (.i .i64 0), (.i .i64 0), (.i .i64 0), (.i .i64 0), (.i .i64 0), (.i .i64 0), (.s []), (.s []), (.l []), (.l [])], .sto 25 (.t 14) (.t 92), .as 15 (.t 93), .as 16 (.t 94)] [88, 89, 90, 91, 87, 92, 93, 94])
 (.seq (.seq (.q [(96, (.op (.bin .neq) [(.sl 16), (.k (.i .i64 0))]))])
 (.cond (.sl 96) (.seq (.q [(6, (.ite (.ite (.op (.bin .eql) [(.sl 15), (.k (.i .i64 0))]) (.ite (.ite (.ite (.op (.bin .lss) [(.sl 2), (.k (.i .i64 1))]) (.k (.b true)) (.op (.bin .gtr) [(.sl 2), (.op (.bin .sub) [(.op (.ld 1 false) [(.op (.fa 9 1) [(.sl 7)])]), (.op (.ld 1 false) [(.op (.fa 10 1) [(.sl 7)])])])])) (.k (.b true)) (.op (.bin .lss) [(.sl 1), (.k (.i .i64 0))])) (.k (.b true)) (.op (.bin .gtr) [(.sl 1), (.k (.i .i64 73048))])) (.k (.b false))) (.op (.call false 9) []) (.k (.b false))))])
 (.ret [6])) .skip))
 (.seq (.q [(6, (.ite (.ite (.ite (.op (.bin .eql) [(.sl 15), (.sl 2)]) (.op (.bin .leq) [(.op (.ld 1 false) [(.op (.fa 10 1) [(.sl 14)])]), (.op (.ld 1 false) [(.op (.fa 9 1) [(.sl 14)])])]) (.k (.b false))) (.op (.bin .eql) [(.op (.call false 15) [(.op (.bsl 25) [(.op (.ld 25 true) [(.sl 14)])])]), (.op (.bin .sub) [(.sl 10), (.sl 2)])]) (.k (.b false))) (.op (.call false 9) []) (.k (.b false))))])
 (.ret [6]))))))))))))⟩
theorem comp6 : compile Tryd.prog Tryd.f6 = some code6 := by kernel_rfl
theorem okf6 : okFn Tryd.prog 6 = true := by kernel_rfl
-- 7: corebank/corebanklaw39.few
def code7 : FCode := ⟨1, [.tmp 2],
 (.seq (.s [.box 1 (.t 0), .as 2 (.c (.b false))] [])
 (.seq (.q [(2, (.ite (.op (.bin .leq) [(.op .len [(.op (.ld 1 false) [(.op (.fa 23 1) [(.sl 1)])])]), (.k (.i .i64 40))]) (.op (.bin .leq) [(.op .len [(.op (.ld 1 false) [(.op (.fa 24 1) [(.sl 1)])])]), (.k (.i .i64 70))]) (.k (.b false))))])
 (.ret [2])))⟩
theorem comp7 : compile Tryd.prog Tryd.f7 = some code7 := by kernel_rfl
theorem okf7 : okFn Tryd.prog 7 = true := by kernel_rfl
-- 8: corebank/corebankref34.Check
def body8_1 : C :=
 (.seq (.seq (.q [(11, (.op (.bin .lss) [(.sl 3), (.op .len [(.op (.ld 1 false) [(.op (.fa 23 1) [(.sl 1)])])])]))])
 (.cond (.sl 11) .skip (.exit 0 [1])))
 (.seq (.blk 1 (.seq (.q [(42, (.ite (.op (.bin .neq) [(.op (.ld 1 false) [(.op (.fa 0 1) [(.op (.ix 4) [(.op (.ld 1 false) [(.op (.fa 23 1) [(.sl 1)])]), (.sl 3)])])]), (.op (.bin .add) [(.sl 3), (.k (.i .i64 1))])]) (.k (.b true)) (.ite (.op (.bin .gtr) [(.sl 3), (.k (.i .i64 0))]) (.op (.bin .lss) [(.op (.ld 1 false) [(.op (.fa 1 1) [(.op (.ix 4) [(.op (.ld 1 false) [(.op (.fa 23 1) [(.sl 1)])]), (.sl 3)])])]), (.op (.ld 1 false) [(.op (.fa 1 1) [(.op (.ix 4) [(.op (.ld 1 false) [(.op (.fa 23 1) [(.sl 1)])]), (.op (.bin .sub) [(.sl 3), (.k (.i .i64 1))])])])])]) (.k (.b false)))))])
 (.cond (.sl 42) (.seq (.q [(2, (.k (.i .i64 10)))])
 (.ret [2])) .skip)))
 (.q [(3, (.op (.bin .add) [(.sl 3), (.k (.i .i64 1))]))])))
def code8 : FCode := ⟨1, [.tmp 2],
 (.seq (.s [.box 1 (.t 0), .as 2 (.c (.i .i64 0))] [])
 (.seq (.seq (.q [(6, (.op (.un .not) [(.op (.call false 18) [(.op (.ld 25 true) [(.sl 1)])])]))])
 (.cond (.sl 6) (.seq (.q [(2, (.k (.i .i64 1)))])
 (.ret [2])) .skip))
 (.seq (.seq (.q [(3, (.k (.i .i64 0)))])
 (.blk 0 (.loop [1, 3] body8_1)))
 (.seq (.seq (.q [(61, (.ite (.ite (.op (.bin .gtr) [(.op (.ld 1 false) [(.op (.fa 3 1) [(.sl 1)])]), (.op (.call true 19) [(.op (.ld 25 true) [(.sl 1)]), (.k (.i .i64 9223372036854775807))])]) (.k (.b true)) (.op (.bin .gtr) [(.op (.ld 1 false) [(.op (.fa 4 1) [(.sl 1)])]), (.op (.call true 20) [(.op (.ld 25 true) [(.sl 1)]), (.k (.i .i64 9223372036854775807))])])) (.k (.b true)) (.op (.bin .gtr) [(.op (.ld 1 false) [(.op (.fa 10 1) [(.sl 1)])]), (.op (.ld 1 false) [(.op (.fa 9 1) [(.sl 1)])])])))])
 (.cond (.sl 61) (.seq (.q [(2, (.k (.i .i64 25)))])
 (.ret [2])) .skip))
 (.seq (.seq (.q [(86, (.ite (.ite (.op (.bin .eql) [(.op .len [(.op (.ld 1 false) [(.op (.fa 24 1) [(.sl 1)])])]), (.k (.i .i64 0))]) (.op (.bin .neq) [(.op (.call true 19) [(.op (.ld 25 true) [(.sl 1)]), (.k (.i .i64 9223372036854775807))]), (.op (.ld 1 false) [(.op (.fa 1 1) [(.op (.fa 11 12) [(.sl 1)])])])]) (.k (.b false))) (.k (.b true)) (.ite (.op (.bin .neq) [(.op (.ld 1 false) [(.op (.fa 2 1) [(.sl 1)])]), (.k (.i .i64 3))]) (.op (.binb .neq) [(.op (.call true 21) [(.op (.ld 25 true) [(.sl 1)])]), (.op (.bin .eql) [(.op (.ld 1 false) [(.op (.fa 2 1) [(.sl 1)])]), (.k (.i .i64 1))])]) (.k (.b false)))))])
 (.cond (.sl 86) (.seq (.q [(2, (.k (.i .i64 25)))])
 (.ret [2])) .skip))
 (.seq (.seq (.q [(99, (.ite (.op (.bin .neq) [(.op (.ld 1 false) [(.op (.fa 2 1) [(.sl 1)])]), (.k (.i .i64 3))]) (.ite (.op (.bin .neq) [(.op (.ld 1 false) [(.op (.fa 9 1) [(.sl 1)])]), (.k (.i .i64 0))]) (.k (.b true)) (.op (.bin .neq) [(.op (.ld 1 false) [(.op (.fa 10 1) [(.sl 1)])]), (.k (.i .i64 0))])) (.k (.b false))))])
 (.cond (.sl 99) (.seq (.q [(2, (.k (.i .i64 25)))])
 (.ret [2])) .skip))
 (.seq (.q [(2, (.k (.i .i64 0)))])
 (.ret [2]))))))))⟩
theorem comp8 : compile Tryd.prog Tryd.f8 = some code8 := by kernel_rfl
theorem okf8 : okFn Tryd.prog 8 = true := by kernel_rfl
-- 9: corebank/corebanklaw39.Lives
def code9 : FCode := ⟨0, [.tmp 0],
 (.seq (.q [(0, (.k (.b false)))])
 (.seq (.s [.call (some 14) 22 [], .call (some 15) 10 [(.t 14), (.c (.i .i64 150))], .mv 13 (.t 15), .ext 16 0 13, .ext 17 1 13, .ext 18 2 13, .alo 1 [(.i .i64 0), (.i .i64 0), (.i .i64 0), (.i .i64 0), (.i .i64 0), (.i .i64 0), (.i .i64 0), (.i .i64 0), (.i .i64 0), (.i .i64 0), (.i .i64 0), (.i .i64 0), (.i .i64 0), (.i .i64 0), (.i .i64 0), (.i .i64 0), (.i .i64 0), (.i .i64 0), (.i .i64 0), (.i .i64 0), (.i .i64 0), (.s []), (.s []), (.l []), (.l [])], .sto 25 (.t 1) (.t 16), .as 2 (.t 17), .as 3 (.t 18)] [14, 15, 13, 16, 17, 18])
 (.seq (.s [.call (some 20) 22 [], .call (some 21) 10 [(.t 20), (.c (.i .i64 149))], .mv 19 (.t 21), .ext 22 0 19, .ext 23 1 19, .ext 24 2 19, .alo 4 [(.i .i64 0), (.i .i64 0), (.i .i64 0), (.i .i64 0), (.i .i64 0), (.i .i64 0), (.i .i64 0), (.i .i64 0), (.i .i64 0), (.i .i64 0), (.i .i64 0), (.i .i64 0), (.i .i64 0), (.i .i64 0), (.i .i64 0), (.i .i64 0), (.i .i64 0), (.i .i64 0), (.i .i64 0), (.i .i64 0), (.i .i64 0), (.s []), (.s []), (.l []), (.l [])], .sto 25 (.t 4) (.t 22), .as 5 (.t 23), .as 6 (.t 24)] [20, 21, 19, 22, 23, 24, 4, 5])
 (.seq (.s [.q 26 (.ld 25 true) [(.t 1)], .call (some 27) 13 [(.t 26), (.c (.i .i64 700)), (.c (.i .i64 200))], .mv 25 (.t 27), .ext 28 0 25, .ext 29 1 25, .ext 30 2 25, .alo 7 [(.i .i64 0), (.i .i64 0), (.i .i64 0), (.i .i64 0), (.i .i64 0), (.i .i64 0), (.i .i64 0), (.i .i64 0), (.i .i64 0), (.i .i64 0), (.i .i64 0), (.i .i64 0), (.i .i64 0), (.i .i64 0), (.i .i64 0), (.i .i64 0), (.i .i64 0), (.i .i64 0), (.i .i64 0), (.i .i64 0), (.i .i64 0), (.s []), (.s []), (.l []), (.l [])], .sto 25 (.t 7) (.t 28), .as 8 (.t 29), .as 9 (.t 30)] [26, 27, 25, 28, 29, 30])
 (.seq (.s [.q 32 (.ld 25 true) [(.t 1)], .call (some 33) 13 [(.t 32), (.c (.i .i64 701)), (.c (.i .i64 200))], .mv 31 (.t 33), .ext 34 0 31, .ext 35 1 31, .ext 36 2 31, .alo 10 [(.i .i64 0), (.i .i64 0), (.i .i64 0), (.i .i64 0), (.i .i64 0), (.i .i64 0), (.i .i64 0), (.i .i64 0), (.i .i64 0), (.i .i64 0), (.i .i64 0), (.i .i64 0), (.i .i64 0), (.i .i64 0), (.i .i64 0), (.i .i64 0), (.i .i64 0), (.i .i64 0), (.i .i64 0), (.i .i64 0), (.i .i64 0), (.s []), (.s []), (.l []), (.l [])], .sto 25 (.t 10) (.t 34), .as 11 (.t 35), .as 12 (.t 36)] [32, 33, 31, 34, 35, 36, 10, 11])
 (.seq (.q [(0, (.ite (.ite (.ite (.ite (.ite (.ite (.ite (.ite (.ite (.ite (.ite (.op (.bin .eql) [(.sl 3), (.k (.i .i64 0))]) (.op (.bin .eql) [(.sl 2), (.k (.i .i64 385))]) (.k (.b false))) (.op (.bin .eql) [(.op (.ld 1 false) [(.op (.fa 9 1) [(.sl 1)])]), (.k (.i .i64 700))]) (.k (.b false))) (.op (.bin .eql) [(.op (.ld 1 false) [(.op (.fa 2 1) [(.sl 1)])]), (.k (.i .i64 3))]) (.k (.b false))) (.op (.bin .eql) [(.op (.ld 1 false) [(.op (.fa 8 1) [(.sl 1)])]), (.k (.i .i64 0))]) (.k (.b false))) (.op (.bin .eql) [(.op (.ld 1 false) [(.op (.fa 6 1) [(.sl 1)])]), (.k (.i .i64 0))]) (.k (.b false))) (.op (.bin .eql) [(.sl 6), (.k (.i .i64 17))]) (.k (.b false))) (.op (.bin .eql) [(.op (.ld 1 false) [(.op (.fa 10 1) [(.sl 7)])]), (.k (.i .i64 700))]) (.k (.b false))) (.op (.bin .eql) [(.sl 8), (.k (.i .i64 700))]) (.k (.b false))) (.op (.bin .eql) [(.sl 9), (.k (.i .i64 0))]) (.k (.b false))) (.op (.bin .eql) [(.sl 12), (.k (.i .i64 18))]) (.k (.b false))) (.op (.bin .eql) [(.op (.call false 15) [(.op (.bsl 25) [(.op (.call false 22) []), (.op (.ld 25 true) [(.sl 7)]), (.op (.ld 25 true) [(.sl 1)])])]), (.k (.i .i64 1400))]) (.k (.b false))))])
 (.ret [0])))))))⟩
theorem comp9 : compile Tryd.prog Tryd.f9 = some code9 := by kernel_rfl
theorem okf9 : okFn Tryd.prog 9 = true := by kernel_rfl
-- 10: corebank/writeoff.Write
def code10 : FCode := ⟨2, [.cell 4 25 true, .tmp 5, .tmp 6],
 (.seq (.s [.box 2 (.t 0), .alo 4 [(.i .i64 0), (.i .i64 0), (.i .i64 0), (.i .i64 0), (.i .i64 0), (.i .i64 0), (.i .i64 0), (.i .i64 0), (.i .i64 0), (.i .i64 0), (.i .i64 0), (.i .i64 0), (.i .i64 0), (.i .i64 0), (.i .i64 0), (.i .i64 0), (.i .i64 0), (.i .i64 0), (.i .i64 0), (.i .i64 0), (.i .i64 0), (.s []), (.s []), (.l []), (.l [])], .as 5 (.c (.i .i64 0)), .as 6 (.c (.i .i64 0))] [])
 (.seq (.seq (.q [(18, (.ite (.op (.bin .neq) [(.op (.ld 1 false) [(.op (.fa 2 1) [(.sl 2)])]), (.k (.i .i64 1))]) (.k (.b true)) (.op (.bin .neq) [(.op (.call false 23) [(.op (.call false 24) [(.op (.ld 25 true) [(.sl 2)]), (.sl 1)])]), (.k (.i .i64 4))])))])
 (.cond (.sl 18) (.seq (.s [.bld 19 [(.i .i64 0), (.i .i64 0), (.i .i64 0), (.i .i64 0), (.i .i64 0), (.i .i64 0), (.i .i64 0), (.i .i64 0), (.i .i64 0), (.i .i64 0), (.i .i64 0), (.i .i64 0), (.i .i64 0), (.i .i64 0), (.i .i64 0), (.i .i64 0), (.i .i64 0), (.i .i64 0), (.i .i64 0), (.i .i64 0), (.i .i64 0), (.s []), (.s []), (.l []), (.l [])] [] [], .sto 25 (.t 4) (.t 19), .as 5 (.c (.i .i64 0)), .as 6 (.c (.i .i64 17))] [19])
 (.ret [4, 5, 6])) .skip))
 (.seq (.s [.q 20 (.ld 25 true) [(.t 2)], .bld 21 [(.i .i64 0), (.i .i64 0), (.i .i64 0), (.i .i64 0), (.i .i64 0), (.i .i64 0), (.i .i64 0), (.i .i64 0), (.i .i64 0), (.i .i64 0), (.i .i64 0), (.i .i64 0), (.i .i64 0), (.i .i64 0), (.i .i64 0), (.i .i64 0), (.i .i64 0), (.i .i64 0), (.i .i64 0), (.i .i64 0), (.i .i64 0), (.s []), (.s []), (.l []), (.l [])] [(0, 25)] [(.t 20)], .mkf 22 (.func 25) 1 [(.t 21)], .as 7 (.t 22)] [20, 21, 22])
 (.seq (.s [.q 23 (.ld 25 true) [(.t 2)], .call (some 24) 26 [(.t 23)], .alo 8 [(.i .i64 0), (.i .i64 0), (.i .i64 0), (.i .i64 0), (.i .i64 0), (.i .i64 0), (.i .i64 0), (.i .i64 0), (.i .i64 0), (.i .i64 0), (.i .i64 0), (.i .i64 0), (.i .i64 0), (.i .i64 0), (.i .i64 0), (.i .i64 0), (.i .i64 0), (.i .i64 0), (.i .i64 0), (.i .i64 0), (.i .i64 0), (.s []), (.s []), (.l []), (.l [])], .sto 25 (.t 8) (.t 24)] [23, 24])
 (.seq (.s [.q 25 (.ld 25 true) [(.t 2)], .call (some 26) 27 [(.t 25)], .fa 27 2 1 (.t 8), .sto 1 (.t 27) (.c (.i .i64 3)), .fa 28 9 1 (.t 8), .sto 1 (.t 28) (.t 26)] [25, 26, 27, 28])
 (.seq (.s [.fa 29 8 1 (.t 8), .sto 1 (.t 29) (.c (.i .i64 0)), .fa 30 5 1 (.t 8), .sto 1 (.t 30) (.c (.i .i64 0)), .fa 31 6 1 (.t 8), .sto 1 (.t 31) (.c (.i .i64 0))] [29, 30, 31])
 (.seq (.d [.q 32 (.ld 25 true) [(.t 8)], .mv 33 (.t 7), .callv (some 34) [(.t 33)], .sto 25 (.t 4) (.t 32), .as 5 (.t 34), .as 6 (.c (.i .i64 0))] [[], [], [1], [0, 2, 0], [2, 3, 0, 1, 2, 3], [4, 0, 1, 2, 3, 4]] [32, 33, 34])
 (.ret [4, 5, 6]))))))))⟩
theorem comp10 : compile Tryd.prog Tryd.f10 = some code10 := by kernel_rfl
theorem okf10 : okFn Tryd.prog 10 = true := by kernel_rfl
-- 11: corebank/corebankref39.Write
def code11 : FCode := ⟨2, [.cell 4 25 true, .tmp 5, .tmp 6],
 (.seq (.s [.box 2 (.t 0), .alo 4 [(.i .i64 0), (.i .i64 0), (.i .i64 0), (.i .i64 0), (.i .i64 0), (.i .i64 0), (.i .i64 0), (.i .i64 0), (.i .i64 0), (.i .i64 0), (.i .i64 0), (.i .i64 0), (.i .i64 0), (.i .i64 0), (.i .i64 0), (.i .i64 0), (.i .i64 0), (.i .i64 0), (.i .i64 0), (.i .i64 0), (.i .i64 0), (.s []), (.s []), (.l []), (.l [])], .as 5 (.c (.i .i64 0)), .as 6 (.c (.i .i64 0))] [])
 (.seq (.seq (.q [(18, (.ite (.op (.bin .neq) [(.op (.ld 1 false) [(.op (.fa 2 1) [(.sl 2)])]), (.k (.i .i64 1))]) (.k (.b true)) (.op (.bin .neq) [(.op (.call false 28) [(.op (.call false 29) [(.op (.ld 25 true) [(.sl 2)]), (.sl 1)])]), (.k (.i .i64 4))])))])
 (.cond (.sl 18) (.seq (.s [.bld 19 [(.i .i64 0), (.i .i64 0), (.i .i64 0), (.i .i64 0), (.i .i64 0), (.i .i64 0), (.i .i64 0), (.i .i64 0), (.i .i64 0), (.i .i64 0), (.i .i64 0), (.i .i64 0), (.i .i64 0), (.i .i64 0), (.i .i64 0), (.i .i64 0), (.i .i64 0), (.i .i64 0), (.i .i64 0), (.i .i64 0), (.i .i64 0), (.s []), (.s []), (.l []), (.l [])] [] [], .sto 25 (.t 4) (.t 19), .as 5 (.c (.i .i64 0)), .as 6 (.c (.i .i64 17))] [19])
 (.ret [4, 5, 6])) .skip))
 (.seq (.q [(7, (.op (.call false 17) [(.op (.ld 25 true) [(.sl 2)])]))])
 (.seq (.q [(8, (.op (.bin .sub) [(.sl 7), (.op (.ld 1 false) [(.op (.fa 8 1) [(.sl 2)])])]))])
 (.seq (.s [.mv 26 (.t 7), .fa 27 2 1 (.t 2), .sto 1 (.t 27) (.c (.i .i64 3)), .fa 28 9 1 (.t 2), .sto 1 (.t 28) (.t 26)] [26, 27, 28])
 (.seq (.s [.fa 29 8 1 (.t 2), .sto 1 (.t 29) (.c (.i .i64 0)), .fa 30 5 1 (.t 2), .sto 1 (.t 30) (.c (.i .i64 0)), .fa 31 6 1 (.t 2), .sto 1 (.t 31) (.c (.i .i64 0))] [29, 30, 31])
 (.seq (.s [.bsl 32 43 4 [], .fa 33 23 1 (.t 2), .q 34 (.ld 1 false) [(.t 33)], .app 35 43 4 32 (.t 32) (.t 34), .fa 36 23 1 (.t 2), .sto 1 (.t 36) (.t 35)] [32, 33, 34, 35, 36])
 (.seq (.s [.bsl 37 59 14 [], .fa 38 24 1 (.t 2), .q 39 (.ld 1 false) [(.t 38)], .app 40 59 14 128 (.t 37) (.t 39), .fa 41 24 1 (.t 2), .sto 1 (.t 41) (.t 40)] [37, 38, 39, 40, 41])
 (.seq (.s [.q 42 (.ld 25 true) [(.t 2)], .mv 43 (.t 8), .sto 25 (.t 4) (.t 42), .as 5 (.t 43), .as 6 (.c (.i .i64 0))] [42, 43])
 (.ret [4, 5, 6]))))))))))⟩
theorem comp11 : compile Tryd.prog Tryd.f11 = some code11 := by kernel_rfl
theorem okf11 : okFn Tryd.prog 11 = true := by kernel_rfl
-- 12: corebank/corebankref34.Same
def code12 : FCode := ⟨2, [.tmp 4],
 (.seq (.s [.box 2 (.t 0), .box 3 (.t 1), .as 4 (.c (.b false))] [])
 (.seq (.q [(4, (.ite (.ite (.ite (.ite (.ite (.ite (.ite (.ite (.ite (.ite (.ite (.ite (.ite (.op (.bin .eql) [(.op (.ld 1 false) [(.op (.fa 0 1) [(.sl 2)])]), (.op (.ld 1 false) [(.op (.fa 0 1) [(.sl 3)])])]) (.op (.bin .eql) [(.op (.ld 1 false) [(.op (.fa 1 1) [(.sl 2)])]), (.op (.ld 1 false) [(.op (.fa 1 1) [(.sl 3)])])]) (.k (.b false))) (.op (.bin .eql) [(.op (.ld 1 false) [(.op (.fa 2 1) [(.sl 2)])]), (.op (.ld 1 false) [(.op (.fa 2 1) [(.sl 3)])])]) (.k (.b false))) (.op (.bin .eql) [(.op (.ld 1 false) [(.op (.fa 3 1) [(.sl 2)])]), (.op (.ld 1 false) [(.op (.fa 3 1) [(.sl 3)])])]) (.k (.b false))) (.op (.bin .eql) [(.op (.ld 1 false) [(.op (.fa 4 1) [(.sl 2)])]), (.op (.ld 1 false) [(.op (.fa 4 1) [(.sl 3)])])]) (.k (.b false))) (.op (.bin .eql) [(.op (.ld 1 false) [(.op (.fa 5 1) [(.sl 2)])]), (.op (.ld 1 false) [(.op (.fa 5 1) [(.sl 3)])])]) (.k (.b false))) (.op (.bin .eql) [(.op (.ld 1 false) [(.op (.fa 6 1) [(.sl 2)])]), (.op (.ld 1 false) [(.op (.fa 6 1) [(.sl 3)])])]) (.k (.b false))) (.op (.bin .eql) [(.op (.ld 1 false) [(.op (.fa 7 1) [(.sl 2)])]), (.op (.ld 1 false) [(.op (.fa 7 1) [(.sl 3)])])]) (.k (.b false))) (.op (.bin .eql) [(.op (.ld 1 false) [(.op (.fa 8 1) [(.sl 2)])]), (.op (.ld 1 false) [(.op (.fa 8 1) [(.sl 3)])])]) (.k (.b false))) (.op (.bin .eql) [(.op (.ld 1 false) [(.op (.fa 9 1) [(.sl 2)])]), (.op (.ld 1 false) [(.op (.fa 9 1) [(.sl 3)])])]) (.k (.b false))) (.op (.bin .eql) [(.op (.ld 1 false) [(.op (.fa 10 1) [(.sl 2)])]), (.op (.ld 1 false) [(.op (.fa 10 1) [(.sl 3)])])]) (.k (.b false))) (.op (.eqa false [1, 1, 1, 1, 1, 1, 1, 1, 1, 1, 2, 2]) [(.op (.ld 12 true) [(.op (.fa 11 12) [(.sl 2)])]), (.op (.ld 12 true) [(.op (.fa 11 12) [(.sl 3)])])]) (.k (.b false))) (.op (.call false 30) [(.op (.ld 1 false) [(.op (.fa 23 1) [(.sl 2)])]), (.op (.ld 1 false) [(.op (.fa 23 1) [(.sl 3)])])]) (.k (.b false))) (.op (.call false 31) [(.op (.ld 1 false) [(.op (.fa 24 1) [(.sl 2)])]), (.op (.ld 1 false) [(.op (.fa 24 1) [(.sl 3)])])]) (.k (.b false))))])
 (.ret [4])))⟩
theorem comp12 : compile Tryd.prog Tryd.f12 = some code12 := by kernel_rfl
theorem okf12 : okFn Tryd.prog 12 = true := by kernel_rfl
-- 13: corebank/writeoff.Recover
def code13 : FCode := ⟨3, [.cell 6 25 true, .tmp 7, .tmp 8],
 (.seq (.s [.box 3 (.t 0), .alo 6 [(.i .i64 0), (.i .i64 0), (.i .i64 0), (.i .i64 0), (.i .i64 0), (.i .i64 0), (.i .i64 0), (.i .i64 0), (.i .i64 0), (.i .i64 0), (.i .i64 0), (.i .i64 0), (.i .i64 0), (.i .i64 0), (.i .i64 0), (.i .i64 0), (.i .i64 0), (.i .i64 0), (.i .i64 0), (.i .i64 0), (.i .i64 0), (.s []), (.s []), (.l []), (.l [])], .as 7 (.c (.i .i64 0)), .as 8 (.c (.i .i64 0))] [])
 (.seq (.blk 0 (.seq (.q [(10, (.op (.bin .neq) [(.op (.ld 1 false) [(.op (.fa 2 1) [(.sl 3)])]), (.k (.i .i64 3))]))])
 (.cond (.sl 10) (.seq (.s [.bld 14 [(.i .i64 0), (.i .i64 0), (.i .i64 0), (.i .i64 0), (.i .i64 0), (.i .i64 0), (.i .i64 0), (.i .i64 0), (.i .i64 0), (.i .i64 0), (.i .i64 0), (.i .i64 0), (.i .i64 0), (.i .i64 0), (.i .i64 0), (.i .i64 0), (.i .i64 0), (.i .i64 0), (.i .i64 0), (.i .i64 0), (.i .i64 0), (.s []), (.s []), (.l []), (.l [])] [] [], .sto 25 (.t 6) (.t 14), .as 7 (.c (.i .i64 0)), .as 8 (.c (.i .i64 17))] [14])
 (.ret [6, 7, 8])) (.seq (.q [(15, (.ite (.ite (.op (.bin .lss) [(.sl 1), (.k (.i .i64 1))]) (.k (.b true)) (.op (.bin .gtr) [(.sl 1), (.k (.i .i64 1000000000000))])) (.k (.b true)) (.op (.un .not) [(.op (.call false 32) [(.sl 2)])])))])
 (.cond (.sl 15) (.seq (.s [.bld 27 [(.i .i64 0), (.i .i64 0), (.i .i64 0), (.i .i64 0), (.i .i64 0), (.i .i64 0), (.i .i64 0), (.i .i64 0), (.i .i64 0), (.i .i64 0), (.i .i64 0), (.i .i64 0), (.i .i64 0), (.i .i64 0), (.i .i64 0), (.i .i64 0), (.i .i64 0), (.i .i64 0), (.i .i64 0), (.i .i64 0), (.i .i64 0), (.s []), (.s []), (.l []), (.l [])] [] [], .sto 25 (.t 6) (.t 27), .as 7 (.c (.i .i64 0)), .as 8 (.c (.i .i64 1))] [27])
 (.ret [6, 7, 8])) (.seq (.q [(28, (.op (.bin .gtr) [(.sl 1), (.op (.bin .sub) [(.op (.ld 1 false) [(.op (.fa 9 1) [(.sl 3)])]), (.op (.ld 1 false) [(.op (.fa 10 1) [(.sl 3)])])])]))])
 (.cond (.sl 28) (.seq (.s [.bld 36 [(.i .i64 0), (.i .i64 0), (.i .i64 0), (.i .i64 0), (.i .i64 0), (.i .i64 0), (.i .i64 0), (.i .i64 0), (.i .i64 0), (.i .i64 0), (.i .i64 0), (.i .i64 0), (.i .i64 0), (.i .i64 0), (.i .i64 0), (.i .i64 0), (.i .i64 0), (.i .i64 0), (.i .i64 0), (.i .i64 0), (.i .i64 0), (.s []), (.s []), (.l []), (.l [])] [] [], .sto 25 (.t 6) (.t 36), .as 7 (.c (.i .i64 0)), .as 8 (.c (.i .i64 18))] [36])
 (.ret [6, 7, 8])) .skip)))))))
 (.seq (.s [.q 37 (.ld 25 true) [(.t 3)], .call (some 38) 26 [(.t 37)], .alo 9 [(.i .i64 0), (.i .i64 0), (.i .i64 0), (.i .i64 0), (.i .i64 0), (.i .i64 0), (.i .i64 0), (.i .i64 0), (.i .i64 0), (.i .i64 0), (.i .i64 0), (.i .i64 0), (.i .i64 0), (.i .i64 0), (.i .i64 0), (.i .i64 0), (.i .i64 0), (.i .i64 0), (.i .i64 0), (.i .i64 0), (.i .i64 0), (.s []), (.s []), (.l []), (.l [])], .sto 25 (.t 9) (.t 38)] [37, 38])
 (.seq (.s [.fa 39 10 1 (.t 9), .q 40 (.ld 1 false) [(.t 39)], .mv 41 (.t 1), .q 42 (.bin .add) [(.t 40), (.t 41)], .fa 43 10 1 (.t 9), .sto 1 (.t 43) (.t 42)] [39, 40, 41, 42, 43])
 (.seq (.s [.q 44 (.ld 25 true) [(.t 9)], .mv 45 (.t 1), .sto 25 (.t 6) (.t 44), .as 7 (.t 45), .as 8 (.c (.i .i64 0))] [44, 45])
 (.ret [6, 7, 8]))))))⟩
theorem comp13 : compile Tryd.prog Tryd.f13 = some code13 := by kernel_rfl
theorem okf13 : okFn Tryd.prog 13 = true := by kernel_rfl
-- 14: corebank/corebankref39.Recover
def code14 : FCode := ⟨3, [.cell 6 25 true, .tmp 7, .tmp 8],
 (.seq (.s [.box 3 (.t 0), .alo 6 [(.i .i64 0), (.i .i64 0), (.i .i64 0), (.i .i64 0), (.i .i64 0), (.i .i64 0), (.i .i64 0), (.i .i64 0), (.i .i64 0), (.i .i64 0), (.i .i64 0), (.i .i64 0), (.i .i64 0), (.i .i64 0), (.i .i64 0), (.i .i64 0), (.i .i64 0), (.i .i64 0), (.i .i64 0), (.i .i64 0), (.i .i64 0), (.s []), (.s []), (.l []), (.l [])], .as 7 (.c (.i .i64 0)), .as 8 (.c (.i .i64 0))] [])
 (.seq (.seq (.q [(11, (.op (.bin .neq) [(.op (.ld 1 false) [(.op (.fa 2 1) [(.sl 3)])]), (.k (.i .i64 3))]))])
 (.cond (.sl 11) (.seq (.s [.bld 12 [(.i .i64 0), (.i .i64 0), (.i .i64 0), (.i .i64 0), (.i .i64 0), (.i .i64 0), (.i .i64 0), (.i .i64 0), (.i .i64 0), (.i .i64 0), (.i .i64 0), (.i .i64 0), (.i .i64 0), (.i .i64 0), (.i .i64 0), (.i .i64 0), (.i .i64 0), (.i .i64 0), (.i .i64 0), (.i .i64 0), (.i .i64 0), (.s []), (.s []), (.l []), (.l [])] [] [], .sto 25 (.t 6) (.t 12), .as 7 (.c (.i .i64 0)), .as 8 (.c (.i .i64 17))] [12])
 (.ret [6, 7, 8])) .skip))
 (.seq (.seq (.q [(23, (.ite (.ite (.op (.bin .lss) [(.sl 1), (.k (.i .i64 1))]) (.k (.b true)) (.op (.bin .gtr) [(.sl 1), (.k (.i .i64 1000000000000))])) (.k (.b true)) (.op (.un .not) [(.op (.call false 33) [(.sl 2)])])))])
 (.cond (.sl 23) (.seq (.s [.bld 24 [(.i .i64 0), (.i .i64 0), (.i .i64 0), (.i .i64 0), (.i .i64 0), (.i .i64 0), (.i .i64 0), (.i .i64 0), (.i .i64 0), (.i .i64 0), (.i .i64 0), (.i .i64 0), (.i .i64 0), (.i .i64 0), (.i .i64 0), (.i .i64 0), (.i .i64 0), (.i .i64 0), (.i .i64 0), (.i .i64 0), (.i .i64 0), (.s []), (.s []), (.l []), (.l [])] [] [], .sto 25 (.t 6) (.t 24), .as 7 (.c (.i .i64 0)), .as 8 (.c (.i .i64 1))] [24])
 (.ret [6, 7, 8])) .skip))
 (.seq (.seq (.q [(31, (.op (.bin .gtr) [(.sl 1), (.op (.bin .sub) [(.op (.ld 1 false) [(.op (.fa 9 1) [(.sl 3)])]), (.op (.ld 1 false) [(.op (.fa 10 1) [(.sl 3)])])])]))])
 (.cond (.sl 31) (.seq (.s [.bld 32 [(.i .i64 0), (.i .i64 0), (.i .i64 0), (.i .i64 0), (.i .i64 0), (.i .i64 0), (.i .i64 0), (.i .i64 0), (.i .i64 0), (.i .i64 0), (.i .i64 0), (.i .i64 0), (.i .i64 0), (.i .i64 0), (.i .i64 0), (.i .i64 0), (.i .i64 0), (.i .i64 0), (.i .i64 0), (.i .i64 0), (.i .i64 0), (.s []), (.s []), (.l []), (.l [])] [] [], .sto 25 (.t 6) (.t 32), .as 7 (.c (.i .i64 0)), .as 8 (.c (.i .i64 18))] [32])
 (.ret [6, 7, 8])) .skip))
 (.seq (.s [.fa 33 10 1 (.t 3), .q 34 (.ld 1 false) [(.t 33)], .mv 35 (.t 1), .q 36 (.bin .add) [(.t 34), (.t 35)], .fa 37 10 1 (.t 3), .sto 1 (.t 37) (.t 36)] [33, 34, 35, 36, 37])
 (.seq (.s [.bsl 38 43 4 [], .fa 39 23 1 (.t 3), .q 40 (.ld 1 false) [(.t 39)], .app 41 43 4 32 (.t 38) (.t 40), .fa 42 23 1 (.t 3), .sto 1 (.t 42) (.t 41)] [38, 39, 40, 41, 42])
 (.seq (.s [.bsl 43 59 14 [], .fa 44 24 1 (.t 3), .q 45 (.ld 1 false) [(.t 44)], .app 46 59 14 128 (.t 43) (.t 45), .fa 47 24 1 (.t 3), .sto 1 (.t 47) (.t 46)] [43, 44, 45, 46, 47])
 (.seq (.s [.q 48 (.ld 25 true) [(.t 3)], .mv 49 (.t 1), .sto 25 (.t 6) (.t 48), .as 7 (.t 49), .as 8 (.c (.i .i64 0))] [48, 49])
 (.ret [6, 7, 8])))))))))⟩
theorem comp14 : compile Tryd.prog Tryd.f14 = some code14 := by kernel_rfl
theorem okf14 : okFn Tryd.prog 14 = true := by kernel_rfl
-- 15: corebank/writeoff.Exposure
def body15_1 : C :=
 (.seq (.q [(9, (.op (.bin .lss) [(.sl 8), (.sl 7)]))])
 (.seq (.cond (.sl 9) .skip (.exit 0 [3]))
 (.seq (.blk 1 (.seq (.s [.ix 10 25 (.t 6) (.t 8), .q 11 (.ld 25 true) [(.t 10)], .alo 5 [(.i .i64 0), (.i .i64 0), (.i .i64 0), (.i .i64 0), (.i .i64 0), (.i .i64 0), (.i .i64 0), (.i .i64 0), (.i .i64 0), (.i .i64 0), (.i .i64 0), (.i .i64 0), (.i .i64 0), (.i .i64 0), (.i .i64 0), (.i .i64 0), (.i .i64 0), (.i .i64 0), (.i .i64 0), (.i .i64 0), (.i .i64 0), (.s []), (.s []), (.l []), (.l [])], .sto 25 (.t 5) (.t 11)] [10, 11])
 (.seq (.q [(13, (.op (.ld 1 false) [(.op (.fa 2 1) [(.sl 5)])]))])
 (.blk 2 (.seq (.q [(14, (.op (.bin .eql) [(.sl 13), (.k (.i .i64 1))]))])
 (.cond (.sl 14) (.q [(3, (.op (.bin .add) [(.sl 3), (.op (.call false 27) [(.op (.ld 25 true) [(.sl 5)])])]))]) (.seq (.q [(20, (.op (.bin .eql) [(.sl 13), (.k (.i .i64 3))]))])
 (.cond (.sl 20) (.q [(3, (.op (.bin .add) [(.sl 3), (.op (.bin .sub) [(.op (.ld 1 false) [(.op (.fa 9 1) [(.sl 5)])]), (.op (.ld 1 false) [(.op (.fa 10 1) [(.sl 5)])])])]))]) .skip))))))))
 (.q [(8, (.op (.bin .add) [(.sl 8), (.k (.i .i64 1))]))]))))
def code15 : FCode := ⟨1, [.tmp 2],
 (.seq (.q [(2, (.k (.i .i64 0)))])
 (.seq (.q [(3, (.k (.i .i64 0)))])
 (.seq (.seq (.s [.mv 6 (.t 0), .q 7 .len [(.t 6)], .mv 8 (.c (.i .i64 0))] [])
 (.blk 0 (.loop [3, 6, 7, 8] body15_1)))
 (.seq (.q [(2, (.sl 3))])
 (.ret [2])))))⟩
theorem comp15 : compile Tryd.prog Tryd.f15 = some code15 := by kernel_rfl
theorem okf15 : okFn Tryd.prog 15 = true := by kernel_rfl
-- 16: corebank/corebankref39.Exposure
def body16_1 : C :=
 (.seq (.seq (.q [(8, (.op (.bin .lss) [(.sl 4), (.op .len [(.sl 0)])]))])
 (.cond (.sl 8) .skip (.exit 0 [3])))
 (.seq (.blk 1 (.seq (.seq (.q [(16, (.op (.bin .eql) [(.op (.ld 1 false) [(.op (.fa 2 1) [(.op (.ix 25) [(.sl 0), (.sl 4)])])]), (.k (.i .i64 1))]))])
 (.cond (.sl 16) (.q [(3, (.op (.bin .add) [(.sl 3), (.op (.call false 17) [(.op (.ld 25 true) [(.op (.ix 25) [(.sl 0), (.sl 4)])])])]))]) .skip))
 (.seq (.q [(29, (.op (.bin .eql) [(.op (.ld 1 false) [(.op (.fa 2 1) [(.op (.ix 25) [(.sl 0), (.sl 4)])])]), (.k (.i .i64 3))]))])
 (.cond (.sl 29) (.q [(3, (.op (.bin .sub) [(.op (.bin .add) [(.sl 3), (.op (.ld 1 false) [(.op (.fa 9 1) [(.op (.ix 25) [(.sl 0), (.sl 4)])])])]), (.op (.ld 1 false) [(.op (.fa 10 1) [(.op (.ix 25) [(.sl 0), (.sl 4)])])])]))]) .skip))))
 (.q [(4, (.op (.bin .add) [(.sl 4), (.k (.i .i64 1))]))])))
def code16 : FCode := ⟨1, [.tmp 2],
 (.seq (.q [(2, (.k (.i .i64 0)))])
 (.seq (.q [(3, (.k (.i .i64 0)))])
 (.seq (.seq (.q [(4, (.k (.i .i64 0)))])
 (.blk 0 (.loop [0, 3, 4] body16_1)))
 (.seq (.q [(2, (.sl 3))])
 (.ret [2])))))⟩
theorem comp16 : compile Tryd.prog Tryd.f16 = some code16 := by kernel_rfl
theorem okf16 : okFn Tryd.prog 16 = true := by kernel_rfl
-- 17: corebank/corebankref34.Outstanding
def code17 : FCode := ⟨1, [.tmp 2],
 (.seq (.s [.box 1 (.t 0), .as 2 (.c (.i .i64 0))] [])
 (.seq (.q [(2, (.op (.bin .sub) [(.op (.call true 19) [(.op (.ld 25 true) [(.sl 1)]), (.k (.i .i64 9223372036854775807))]), (.op (.ld 1 false) [(.op (.fa 3 1) [(.sl 1)])])]))])
 (.ret [2])))⟩
theorem comp17 : compile Tryd.prog Tryd.f17 = some code17 := by kernel_rfl
theorem okf17 : okFn Tryd.prog 17 = true := by kernel_rfl
-- 18: corebank/corebankref34.ranged
def body18_1 : C :=
 (.seq (.seq (.q [(100, (.op (.bin .lss) [(.sl 3), (.op .len [(.op (.ld 1 false) [(.op (.fa 23 1) [(.sl 1)])])])]))])
 (.cond (.sl 100) .skip (.exit 0 [])))
 (.seq (.blk 1 (.seq (.s [.fa 103 23 1 (.t 1), .q 104 (.ld 1 false) [(.t 103)], .mv 105 (.t 3), .ix 106 4 (.t 104) (.t 105), .q 107 (.ld 4 true) [(.t 106)], .alo 4 [(.i .i64 0), (.i .i64 0), (.i .i64 0), (.i .i64 0)], .sto 4 (.t 4) (.t 107)] [103, 104, 105, 106, 107])
 (.seq (.q [(123, (.ite (.ite (.op (.un .not) [(.op (.call false 33) [(.op (.ld 1 false) [(.op (.fa 1 1) [(.sl 4)])])])]) (.k (.b true)) (.op (.un .not) [(.op (.call false 34) [(.op (.ld 1 false) [(.op (.fa 2 1) [(.sl 4)])]), (.k (.i .i64 1000000000000))])])) (.k (.b true)) (.op (.un .not) [(.op (.call false 34) [(.op (.ld 1 false) [(.op (.fa 3 1) [(.sl 4)])]), (.k (.i .i64 1000000000000))])])))])
 (.cond (.sl 123) (.seq (.q [(2, (.k (.b false)))])
 (.ret [2])) .skip))))
 (.q [(3, (.op (.bin .add) [(.sl 3), (.k (.i .i64 1))]))])))
def code18 : FCode := ⟨1, [.tmp 2],
 (.seq (.s [.box 1 (.t 0), .as 2 (.c (.b false))] [])
 (.seq (.seq (.q [(37, (.ite (.ite (.ite (.ite (.ite (.ite (.op (.bin .lss) [(.op (.ld 1 false) [(.op (.fa 0 1) [(.sl 1)])]), (.k (.i .i64 1))]) (.k (.b true)) (.op (.bin .lss) [(.op (.ld 1 false) [(.op (.fa 1 1) [(.sl 1)])]), (.k (.i .i64 1000))])) (.k (.b true)) (.op (.bin .lss) [(.op (.ld 1 false) [(.op (.fa 2 1) [(.sl 1)])]), (.k (.i .i64 1))])) (.k (.b true)) (.op (.bin .gtr) [(.op (.ld 1 false) [(.op (.fa 2 1) [(.sl 1)])]), (.k (.i .i64 3))])) (.k (.b true)) (.op (.bin .lss) [(.op (.ld 1 false) [(.op (.fa 3 1) [(.sl 1)])]), (.k (.i .i64 0))])) (.k (.b true)) (.op (.bin .lss) [(.op (.ld 1 false) [(.op (.fa 4 1) [(.sl 1)])]), (.k (.i .i64 0))])) (.k (.b true)) (.op (.bin .lss) [(.op (.ld 1 false) [(.op (.fa 10 1) [(.sl 1)])]), (.k (.i .i64 0))])))])
 (.cond (.sl 37) (.seq (.q [(2, (.k (.b false)))])
 (.ret [2])) .skip))
 (.seq (.seq (.q [(79, (.ite (.ite (.ite (.ite (.ite (.ite (.op (.un .not) [(.op (.call false 34) [(.op (.ld 1 false) [(.op (.fa 5 1) [(.sl 1)])]), (.k (.i .i64 1000000000000))])]) (.k (.b true)) (.op (.un .not) [(.op (.call false 34) [(.op (.ld 1 false) [(.op (.fa 6 1) [(.sl 1)])]), (.k (.i .i64 1000000000000))])])) (.k (.b true)) (.op (.un .not) [(.op (.call false 34) [(.op (.ld 1 false) [(.op (.fa 8 1) [(.sl 1)])]), (.k (.i .i64 1000000000000))])])) (.k (.b true)) (.op (.un .not) [(.op (.call false 34) [(.op (.ld 1 false) [(.op (.fa 9 1) [(.sl 1)])]), (.k (.i .i64 1000000000000))])])) (.k (.b true)) (.op (.un .not) [(.op (.call false 33) [(.op (.ld 1 false) [(.op (.fa 7 1) [(.sl 1)])])])])) (.k (.b true)) (.op (.un .not) [(.op (.call false 34) [(.op (.ld 1 false) [(.op (.fa 8 1) [(.op (.fa 11 12) [(.sl 1)])])]), (.k (.i .i64 1000000))])])) (.k (.b true)) (.op (.un .not) [(.op (.call false 34) [(.op (.ld 1 false) [(.op (.fa 9 1) [(.op (.fa 11 12) [(.sl 1)])])]), (.k (.i .i64 1000000))])])))])
 (.cond (.sl 79) (.seq (.q [(2, (.k (.b false)))])
 (.ret [2])) .skip))
 (.seq (.seq (.q [(95, (.ite (.ite (.op (.bin .lss) [(.op .len [(.op (.ld 1 false) [(.op (.fa 23 1) [(.sl 1)])])]), (.k (.i .i64 1))]) (.k (.b true)) (.op (.bin .gtr) [(.op .len [(.op (.ld 1 false) [(.op (.fa 23 1) [(.sl 1)])])]), (.k (.i .i64 240))])) (.k (.b true)) (.op (.bin .gtr) [(.op .len [(.op (.ld 1 false) [(.op (.fa 24 1) [(.sl 1)])])]), (.k (.i .i64 64))])))])
 (.cond (.sl 95) (.seq (.q [(2, (.k (.b false)))])
 (.ret [2])) .skip))
 (.seq (.seq (.q [(3, (.k (.i .i64 0)))])
 (.blk 0 (.loop [1, 3] body18_1)))
 (.seq (.q [(2, (.k (.b true)))])
 (.ret [2])))))))⟩
theorem comp18 : compile Tryd.prog Tryd.f18 = some code18 := by kernel_rfl
theorem okf18 : okFn Tryd.prog 18 = true := by kernel_rfl
-- 19: corebank/corebankref34.Principal
def body19_1 : C :=
 (.seq (.seq (.q [(11, (.op (.bin .lss) [(.sl 6), (.op .len [(.op (.ld 1 false) [(.op (.fa 23 1) [(.sl 2)])])])]))])
 (.cond (.sl 11) .skip (.exit 0 [5])))
 (.seq (.blk 1 (.seq (.q [(21, (.op (.bin .leq) [(.op (.ld 1 false) [(.op (.fa 1 1) [(.op (.ix 4) [(.op (.ld 1 false) [(.op (.fa 23 1) [(.sl 2)])]), (.sl 6)])])]), (.sl 1)]))])
 (.cond (.sl 21) (.q [(5, (.op (.bin .add) [(.sl 5), (.op (.ld 1 false) [(.op (.fa 2 1) [(.op (.ix 4) [(.op (.ld 1 false) [(.op (.fa 23 1) [(.sl 2)])]), (.sl 6)])])])]))]) .skip)))
 (.q [(6, (.op (.bin .add) [(.sl 6), (.k (.i .i64 1))]))])))
def code19 : FCode := ⟨2, [.tmp 4],
 (.seq (.s [.box 2 (.t 0), .as 4 (.c (.i .i64 0))] [])
 (.seq (.q [(5, (.k (.i .i64 0)))])
 (.seq (.seq (.q [(6, (.k (.i .i64 0)))])
 (.blk 0 (.loop [1, 2, 5, 6] body19_1)))
 (.seq (.q [(4, (.sl 5))])
 (.ret [4])))))⟩
theorem comp19 : compile Tryd.prog Tryd.f19 = some code19 := by kernel_rfl
theorem okf19 : okFn Tryd.prog 19 = true := by kernel_rfl
-- 20: corebank/corebankref34.Interest
def body20_1 : C :=
 (.seq (.seq (.q [(11, (.op (.bin .lss) [(.sl 6), (.op .len [(.op (.ld 1 false) [(.op (.fa 23 1) [(.sl 2)])])])]))])
 (.cond (.sl 11) .skip (.exit 0 [5])))
 (.seq (.blk 1 (.seq (.q [(21, (.op (.bin .leq) [(.op (.ld 1 false) [(.op (.fa 1 1) [(.op (.ix 4) [(.op (.ld 1 false) [(.op (.fa 23 1) [(.sl 2)])]), (.sl 6)])])]), (.sl 1)]))])
 (.cond (.sl 21) (.q [(5, (.op (.bin .add) [(.sl 5), (.op (.ld 1 false) [(.op (.fa 3 1) [(.op (.ix 4) [(.op (.ld 1 false) [(.op (.fa 23 1) [(.sl 2)])]), (.sl 6)])])])]))]) .skip)))
 (.q [(6, (.op (.bin .add) [(.sl 6), (.k (.i .i64 1))]))])))
def code20 : FCode := ⟨2, [.tmp 4],
 (.seq (.s [.box 2 (.t 0), .as 4 (.c (.i .i64 0))] [])
 (.seq (.q [(5, (.k (.i .i64 0)))])
 (.seq (.seq (.q [(6, (.k (.i .i64 0)))])
 (.blk 0 (.loop [1, 2, 5, 6] body20_1)))
 (.seq (.q [(4, (.sl 5))])
 (.ret [4])))))⟩
theorem comp20 : compile Tryd.prog Tryd.f20 = some code20 := by kernel_rfl
theorem okf20 : okFn Tryd.prog 20 = true := by kernel_rfl
-- 21: corebank/corebankref34.Left
def code21 : FCode := ⟨1, [.tmp 2],
 (.seq (.s [.box 1 (.t 0), .as 2 (.c (.b false))] [])
 (.seq (.q [(2, (.ite (.ite (.ite (.op (.bin .neq) [(.op (.call true 19) [(.op (.ld 25 true) [(.sl 1)]), (.k (.i .i64 9223372036854775807))]), (.op (.ld 1 false) [(.op (.fa 3 1) [(.sl 1)])])]) (.k (.b true)) (.op (.bin .neq) [(.op (.call true 20) [(.op (.ld 25 true) [(.sl 1)]), (.k (.i .i64 9223372036854775807))]), (.op (.ld 1 false) [(.op (.fa 4 1) [(.sl 1)])])])) (.k (.b true)) (.op (.bin .neq) [(.op (.ld 1 false) [(.op (.fa 5 1) [(.sl 1)])]), (.k (.i .i64 0))])) (.k (.b true)) (.op (.bin .neq) [(.op (.ld 1 false) [(.op (.fa 6 1) [(.sl 1)])]), (.k (.i .i64 0))])))])
 (.ret [2])))⟩
theorem comp21 : compile Tryd.prog Tryd.f21 = some code21 := by kernel_rfl
theorem okf21 : okFn Tryd.prog 21 = true := by kernel_rfl
-- 22: corebank/corebanklaw39.sample
def code22 : FCode := ⟨0, [.cell 0 25 true],
 (.seq (.s [.alo 0 [(.i .i64 0), (.i .i64 0), (.i .i64 0), (.i .i64 0), (.i .i64 0), (.i .i64 0), (.i .i64 0), (.i .i64 0), (.i .i64 0), (.i .i64 0), (.i .i64 0), (.i .i64 0), (.i .i64 0), (.i .i64 0), (.i .i64 0), (.i .i64 0), (.i .i64 0), (.i .i64 0), (.i .i64 0), (.i .i64 0), (.i .i64 0), (.s []), (.s []), (.l []), (.l [])]] [])
 (.seq (.s [.bld 2 [(.i .i64 0), (.i .i64 0), (.i .i64 0), (.i .i64 0), (.i .i64 0), (.i .i64 0), (.i .i64 0), (.i .i64 0), (.i .i64 0), (.i .i64 0), (.s []), (.s [])] [(0, 1), (1, 1), (3, 1), (4, 1), (5, 1), (7, 1), (10, 1), (11, 1)] [(.c (.i .i64 2)), (.c (.i .i64 700)), (.c (.i .i64 30)), (.c (.i .i64 1)), (.c (.i .i64 1)), (.c (.i .i64 1)), (.c (.s [104, 111, 109, 101])), (.c (.s [69, 85, 82]))], .alo 1 [(.i .i64 0), (.i .i64 0), (.i .i64 0), (.i .i64 0), (.i .i64 0), (.i .i64 0), (.i .i64 0), (.i .i64 0), (.i .i64 0), (.i .i64 0), (.s []), (.s [])], .sto 12 (.t 1) (.t 2)] [2])
 (.seq (.s [.q 3 (.ld 12 true) [(.t 1)], .bld 4 [(.i .i64 0), (.i .i64 0), (.i .i64 0), (.i .i64 0)] [(0, 1), (1, 1), (2, 1)] [(.c (.i .i64 1)), (.c (.i .i64 59)), (.c (.i .i64 700))], .bsl 5 43 4 [(.t 4)], .bld 6 [(.i .i64 0), (.i .i64 0), (.i .i64 0), (.i .i64 0), (.i .i64 0), (.i .i64 0), (.i .i64 0), (.i .i64 0), (.i .i64 0), (.i .i64 0), (.i .i64 0), (.i .i64 0), (.i .i64 0), (.i .i64 0), (.i .i64 0), (.i .i64 0), (.i .i64 0), (.i .i64 0), (.i .i64 0), (.i .i64 0), (.i .i64 0), (.s []), (.s []), (.l []), (.l [])] [(0, 1), (1, 1), (2, 1), (7, 1), (8, 1), (6, 1), (11, 12), (23, 1)] [(.c (.i .i64 1)), (.c (.i .i64 1000)), (.c (.i .i64 1)), (.c (.i .i64 30)), (.c (.i .i64 315)), (.c (.i .i64 4)), (.t 3), (.t 5)], .sto 25 (.t 0) (.t 6)] [3, 4, 5, 6])
 (.ret [0]))))⟩
theorem comp22 : compile Tryd.prog Tryd.f22 = some code22 := by kernel_rfl
theorem okf22 : okFn Tryd.prog 22 = true := by kernel_rfl
-- 23: corebank/arrears.Bucket
def body23_1 : C :=
 (.seq (.q [(7, (.op (.bin .lss) [(.sl 6), (.k (.i .i64 4))]))])
 (.seq (.cond (.sl 7) .skip (.exit 0 []))
 (.seq (.blk 1 (.seq (.q [(3, (.sl 6)), (4, (.op (.aix 4 1 false) [(.sl 5), (.sl 6)]))])
 (.seq (.q [(12, (.op (.bin .leq) [(.sl 0), (.sl 4)]))])
 (.cond (.sl 12) (.seq (.q [(2, (.sl 3))])
 (.ret [2])) .skip))))
 (.q [(6, (.op (.bin .add) [(.sl 6), (.k (.i .i64 1))]))]))))
def code23 : FCode := ⟨1, [.tmp 2],
 (.seq (.q [(2, (.k (.i .i64 0)))])
 (.seq (.seq (.s [.q 5 (.ld 4 true) [(.c (.r [(.i .i64 0), (.i .i64 30), (.i .i64 60), (.i .i64 90)]))], .mv 6 (.c (.i .i64 0))] [])
 (.blk 0 (.loop [0, 5, 6] body23_1)))
 (.seq (.q [(2, (.k (.i .i64 4)))])
 (.ret [2]))))⟩
theorem comp23 : compile Tryd.prog Tryd.f23 = some code23 := by kernel_rfl
theorem okf23 : okFn Tryd.prog 23 = true := by kernel_rfl
-- 24: corebank/arrears.Days
def body24_1 : C :=
 (.seq (.q [(13, (.op (.bin .lss) [(.sl 12), (.sl 11)]))])
 (.seq (.cond (.sl 13) .skip (.exit 0 []))
 (.seq (.blk 1 (.seq (.s [.ix 14 4 (.t 10) (.t 12), .q 15 (.ld 4 true) [(.t 14)], .alo 8 [(.i .i64 0), (.i .i64 0), (.i .i64 0), (.i .i64 0)], .sto 4 (.t 8) (.t 15)] [14, 15])
 (.seq (.q [(5, (.op (.bin .add) [(.sl 5), (.op (.ld 1 false) [(.op (.fa 2 1) [(.sl 8)])])]))])
 (.seq (.q [(6, (.op (.bin .add) [(.sl 6), (.op (.ld 1 false) [(.op (.fa 3 1) [(.sl 8)])])]))])
 (.seq (.q [(39, (.ite (.op (.bin .leq) [(.op (.ld 1 false) [(.op (.fa 1 1) [(.sl 8)])]), (.sl 1)]) (.ite (.op (.bin .lss) [(.op (.ld 1 false) [(.op (.fa 3 1) [(.sl 2)])]), (.sl 5)]) (.k (.b true)) (.op (.bin .lss) [(.op (.ld 1 false) [(.op (.fa 4 1) [(.sl 2)])]), (.sl 6)])) (.k (.b false))))])
 (.cond (.sl 39) (.seq (.q [(4, (.op (.bin .sub) [(.sl 1), (.op (.ld 1 false) [(.op (.fa 1 1) [(.sl 8)])])]))])
 (.ret [4])) .skip))))))
 (.q [(12, (.op (.bin .add) [(.sl 12), (.k (.i .i64 1))]))]))))
def code24 : FCode := ⟨2, [.tmp 4],
 (.seq (.s [.box 2 (.t 0), .as 4 (.c (.i .i64 0))] [])
 (.seq (.q [(5, (.k (.i .i64 0))), (6, (.k (.i .i64 0)))])
 (.seq (.seq (.s [.fa 9 23 1 (.t 2), .q 10 (.ld 1 false) [(.t 9)], .q 11 .len [(.t 10)], .mv 12 (.c (.i .i64 0))] [9])
 (.blk 0 (.loop [1, 2, 5, 6, 10, 11, 12] body24_1)))
 (.seq (.q [(4, (.k (.i .i64 0)))])
 (.ret [4])))))⟩
theorem comp24 : compile Tryd.prog Tryd.f24 = some code24 := by kernel_rfl
theorem okf24 : okFn Tryd.prog 24 = true := by kernel_rfl
-- 25: (corebank/writeoff.written).loss
def code25 : FCode := ⟨1, [.tmp 2],
 (.seq (.s [.box 1 (.t 0), .as 2 (.c (.i .i64 0))] [])
 (.seq (.q [(2, (.op (.bin .sub) [(.op (.call true 27) [(.op (.ld 25 true) [(.op (.fa 0 25) [(.sl 1)])])]), (.op (.ld 1 false) [(.op (.fa 8 1) [(.op (.fa 0 25) [(.sl 1)])])])]))])
 (.ret [2])))⟩
theorem comp25 : compile Tryd.prog Tryd.f25 = some code25 := by kernel_rfl
theorem okf25 : okFn Tryd.prog 25 = true := by kernel_rfl
-- 26: corebank/clone.Loan
def code26 : FCode := ⟨1, [.cell 2 25 true],
 (.seq (.s [.box 1 (.t 0), .alo 2 [(.i .i64 0), (.i .i64 0), (.i .i64 0), (.i .i64 0), (.i .i64 0), (.i .i64 0), (.i .i64 0), (.i .i64 0), (.i .i64 0), (.i .i64 0), (.i .i64 0), (.i .i64 0), (.i .i64 0), (.i .i64 0), (.i .i64 0), (.i .i64 0), (.i .i64 0), (.i .i64 0), (.i .i64 0), (.i .i64 0), (.i .i64 0), (.s []), (.s []), (.l []), (.l [])]] [])
 (.seq (.d [.fa 3 23 1 (.t 1), .q 4 (.ld 1 false) [(.t 3)], .call (some 5) 35 [(.t 4)], .fa 6 24 1 (.t 1), .q 7 (.ld 1 false) [(.t 6)], .call (some 8) 36 [(.t 7)], .fa 9 23 1 (.t 1), .sto 1 (.t 9) (.t 5), .fa 10 24 1 (.t 1), .sto 1 (.t 10) (.t 8)] [[], [0], [1], [], [3], [4, 2], [0, 1, 2, 3, 4], [6, 2, 5, 0, 1, 2, 3, 4], [0, 1, 2, 3, 4, 5, 6, 7], [8, 5, 7, 0, 1, 2, 3, 4, 5, 6, 7]] [3, 4, 5, 6, 7, 8, 9, 10])
 (.seq (.s [.q 11 (.ld 25 true) [(.t 1)], .sto 25 (.t 2) (.t 11)] [11])
 (.ret [2]))))⟩
theorem comp26 : compile Tryd.prog Tryd.f26 = some code26 := by kernel_rfl
theorem okf26 : okFn Tryd.prog 26 = true := by kernel_rfl
-- 27: corebank/loan.Outstanding
def code27 : FCode := ⟨1, [.tmp 2],
 (.seq (.s [.box 1 (.t 0), .as 2 (.c (.i .i64 0))] [])
 (.seq (.s [.fa 6 23 1 (.t 1), .q 7 (.ld 1 false) [(.t 6)], .call (some 8) 37 [(.t 7)], .mv 5 (.t 8), .ext 9 0 5, .ext 10 1 5, .as 3 (.t 9), .as 4 (.t 10)] [6, 7, 8, 5, 9, 10, 4])
 (.seq (.q [(2, (.op (.bin .sub) [(.sl 3), (.op (.ld 1 false) [(.op (.fa 3 1) [(.sl 1)])])]))])
 (.ret [2]))))⟩
theorem comp27 : compile Tryd.prog Tryd.f27 = some code27 := by kernel_rfl
theorem okf27 : okFn Tryd.prog 27 = true := by kernel_rfl
-- 28: corebank/corebankref37.Bucket
def code28 : FCode := ⟨1, [.tmp 2],
 (.seq (.q [(2, (.k (.i .i64 0)))])
 (.seq (.blk 0 (.seq (.q [(3, (.op (.bin .leq) [(.sl 0), (.k (.i .i64 0))]))])
 (.cond (.sl 3) (.seq (.q [(2, (.k (.i .i64 0)))])
 (.ret [2])) (.seq (.q [(6, (.op (.bin .leq) [(.sl 0), (.k (.i .i64 30))]))])
 (.cond (.sl 6) (.seq (.q [(2, (.k (.i .i64 1)))])
 (.ret [2])) (.seq (.q [(9, (.op (.bin .leq) [(.sl 0), (.k (.i .i64 60))]))])
 (.cond (.sl 9) (.seq (.q [(2, (.k (.i .i64 2)))])
 (.ret [2])) (.seq (.q [(12, (.op (.bin .leq) [(.sl 0), (.k (.i .i64 90))]))])
 (.cond (.sl 12) (.seq (.q [(2, (.k (.i .i64 3)))])
 (.ret [2])) .skip)))))))))
 (.seq (.q [(2, (.k (.i .i64 4)))])
 (.ret [2]))))⟩
theorem comp28 : compile Tryd.prog Tryd.f28 = some code28 := by kernel_rfl
theorem okf28 : okFn Tryd.prog 28 = true := by kernel_rfl
-- 29: corebank/corebankref37.Days
def body29_1 : C :=
 (.seq (.seq (.q [(13, (.op (.bin .lss) [(.sl 7), (.op .len [(.op (.ld 1 false) [(.op (.fa 23 1) [(.sl 2)])])])]))])
 (.cond (.sl 13) .skip (.exit 0 [])))
 (.seq (.blk 1 (.seq (.s [.fa 16 23 1 (.t 2), .q 17 (.ld 1 false) [(.t 16)], .mv 18 (.t 7), .ix 19 4 (.t 17) (.t 18), .q 20 (.ld 4 true) [(.t 19)], .alo 8 [(.i .i64 0), (.i .i64 0), (.i .i64 0), (.i .i64 0)], .sto 4 (.t 8) (.t 20)] [16, 17, 18, 19, 20])
 (.seq (.q [(5, (.op (.bin .add) [(.sl 5), (.op (.ld 1 false) [(.op (.fa 2 1) [(.sl 8)])])]))])
 (.seq (.q [(6, (.op (.bin .add) [(.sl 6), (.op (.ld 1 false) [(.op (.fa 3 1) [(.sl 8)])])]))])
 (.seq (.q [(44, (.ite (.op (.bin .leq) [(.op (.ld 1 false) [(.op (.fa 1 1) [(.sl 8)])]), (.sl 1)]) (.ite (.op (.bin .lss) [(.op (.ld 1 false) [(.op (.fa 3 1) [(.sl 2)])]), (.sl 5)]) (.k (.b true)) (.op (.bin .lss) [(.op (.ld 1 false) [(.op (.fa 4 1) [(.sl 2)])]), (.sl 6)])) (.k (.b false))))])
 (.cond (.sl 44) (.seq (.q [(4, (.op (.bin .sub) [(.sl 1), (.op (.ld 1 false) [(.op (.fa 1 1) [(.sl 8)])])]))])
 (.ret [4])) .skip))))))
 (.q [(7, (.op (.bin .add) [(.sl 7), (.k (.i .i64 1))]))])))
def code29 : FCode := ⟨2, [.tmp 4],
 (.seq (.s [.box 2 (.t 0), .as 4 (.c (.i .i64 0))] [])
 (.seq (.q [(5, (.k (.i .i64 0))), (6, (.k (.i .i64 0)))])
 (.seq (.seq (.q [(7, (.k (.i .i64 0)))])
 (.blk 0 (.loop [1, 2, 5, 6, 7] body29_1)))
 (.seq (.q [(4, (.k (.i .i64 0)))])
 (.ret [4])))))⟩
theorem comp29 : compile Tryd.prog Tryd.f29 = some code29 := by kernel_rfl
theorem okf29 : okFn Tryd.prog 29 = true := by kernel_rfl
-- 30: corebank/corebankref34.SameDues
def body30_1 : C :=
 (.seq (.seq (.q [(14, (.op (.bin .lss) [(.sl 5), (.op .len [(.sl 0)])]))])
 (.cond (.sl 14) .skip (.exit 0 [])))
 (.seq (.blk 1 (.seq (.q [(25, (.op (.eqa true [1, 1, 1, 1]) [(.op (.ld 4 true) [(.op (.ix 4) [(.sl 0), (.sl 5)])]), (.op (.ld 4 true) [(.op (.ix 4) [(.sl 1), (.sl 5)])])]))])
 (.cond (.sl 25) (.seq (.q [(4, (.k (.b false)))])
 (.ret [4])) .skip)))
 (.q [(5, (.op (.bin .add) [(.sl 5), (.k (.i .i64 1))]))])))
def code30 : FCode := ⟨2, [.tmp 4],
 (.seq (.q [(4, (.k (.b false)))])
 (.seq (.seq (.q [(10, (.op (.bin .neq) [(.op .len [(.sl 0)]), (.op .len [(.sl 1)])]))])
 (.cond (.sl 10) (.seq (.q [(4, (.k (.b false)))])
 (.ret [4])) .skip))
 (.seq (.seq (.q [(5, (.k (.i .i64 0)))])
 (.blk 0 (.loop [0, 1, 5] body30_1)))
 (.seq (.q [(4, (.k (.b true)))])
 (.ret [4])))))⟩
theorem comp30 : compile Tryd.prog Tryd.f30 = some code30 := by kernel_rfl
theorem okf30 : okFn Tryd.prog 30 = true := by kernel_rfl
-- 31: corebank/corebankref34.sameChanges
def body31_1 : C :=
 (.seq (.seq (.q [(14, (.op (.bin .lss) [(.sl 5), (.op .len [(.sl 0)])]))])
 (.cond (.sl 14) .skip (.exit 0 [])))
 (.seq (.blk 1 (.seq (.q [(25, (.op (.eqa true [1, 1, 1, 1, 1, 1, 1, 1, 1, 1, 1, 1, 2, 2]) [(.op (.ld 14 true) [(.op (.ix 14) [(.sl 0), (.sl 5)])]), (.op (.ld 14 true) [(.op (.ix 14) [(.sl 1), (.sl 5)])])]))])
 (.cond (.sl 25) (.seq (.q [(4, (.k (.b false)))])
 (.ret [4])) .skip)))
 (.q [(5, (.op (.bin .add) [(.sl 5), (.k (.i .i64 1))]))])))
def code31 : FCode := ⟨2, [.tmp 4],
 (.seq (.q [(4, (.k (.b false)))])
 (.seq (.seq (.q [(10, (.op (.bin .neq) [(.op .len [(.sl 0)]), (.op .len [(.sl 1)])]))])
 (.cond (.sl 10) (.seq (.q [(4, (.k (.b false)))])
 (.ret [4])) .skip))
 (.seq (.seq (.q [(5, (.k (.i .i64 0)))])
 (.blk 0 (.loop [0, 1, 5] body31_1)))
 (.seq (.q [(4, (.k (.b true)))])
 (.ret [4])))))⟩
theorem comp31 : compile Tryd.prog Tryd.f31 = some code31 := by kernel_rfl
theorem okf31 : okFn Tryd.prog 31 = true := by kernel_rfl
-- 32: corebank/date.Valid
def code32 : FCode := ⟨1, [.tmp 2],
 (.seq (.q [(2, (.k (.b false)))])
 (.seq (.q [(2, (.ite (.op (.bin .geq) [(.sl 0), (.k (.i .i64 0))]) (.op (.bin .leq) [(.sl 0), (.k (.i .i64 73048))]) (.k (.b false))))])
 (.ret [2])))⟩
theorem comp32 : compile Tryd.prog Tryd.f32 = some code32 := by kernel_rfl
theorem okf32 : okFn Tryd.prog 32 = true := by kernel_rfl
-- 33: corebank/corebankref04.Valid
def code33 : FCode := ⟨1, [.tmp 2],
 (.seq (.q [(2, (.k (.b false)))])
 (.seq (.q [(2, (.ite (.op (.bin .geq) [(.sl 0), (.k (.i .i64 0))]) (.op (.bin .leq) [(.sl 0), (.k (.i .i64 73048))]) (.k (.b false))))])
 (.ret [2])))⟩
theorem comp33 : compile Tryd.prog Tryd.f33 = some code33 := by kernel_rfl
theorem okf33 : okFn Tryd.prog 33 = true := by kernel_rfl
-- 34: corebank/corebankref34.within
def code34 : FCode := ⟨2, [.tmp 4],
 (.seq (.q [(4, (.k (.b false)))])
 (.seq (.q [(4, (.ite (.op (.bin .geq) [(.sl 0), (.k (.i .i64 0))]) (.op (.bin .leq) [(.sl 0), (.sl 1)]) (.k (.b false))))])
 (.ret [4])))⟩
theorem comp34 : compile Tryd.prog Tryd.f34 = some code34 := by kernel_rfl
theorem okf34 : okFn Tryd.prog 34 = true := by kernel_rfl
-- 35: slices.Clone[[]corebank/api.Due,corebank/api.Due] NOT COMPILED
-- 36: slices.Clone[[]corebank/api.Change,corebank/api.Change] NOT COMPILED
-- 37: corebank/loan.sums
def body37_1 : C :=
 (.seq (.q [(11, (.op (.bin .lss) [(.sl 10), (.sl 9)]))])
 (.seq (.cond (.sl 11) .skip (.exit 0 [4, 5]))
 (.seq (.blk 1 (.seq (.s [.ix 12 4 (.t 8) (.t 10), .q 13 (.ld 4 true) [(.t 12)], .alo 7 [(.i .i64 0), (.i .i64 0), (.i .i64 0), (.i .i64 0)], .sto 4 (.t 7) (.t 13)] [12, 13])
 (.seq (.q [(4, (.op (.bin .add) [(.sl 4), (.op (.ld 1 false) [(.op (.fa 2 1) [(.sl 7)])])]))])
 (.q [(5, (.op (.bin .add) [(.sl 5), (.op (.ld 1 false) [(.op (.fa 3 1) [(.sl 7)])])]))]))))
 (.q [(10, (.op (.bin .add) [(.sl 10), (.k (.i .i64 1))]))]))))
def code37 : FCode := ⟨1, [.tmp 2, .tmp 3],
 (.seq (.q [(2, (.k (.i .i64 0))), (3, (.k (.i .i64 0)))])
 (.seq (.q [(4, (.k (.i .i64 0))), (5, (.k (.i .i64 0)))])
 (.seq (.seq (.s [.mv 8 (.t 0), .q 9 .len [(.t 8)], .mv 10 (.c (.i .i64 0))] [])
 (.blk 0 (.loop [4, 5, 8, 9, 10] body37_1)))
 (.seq (.q [(2, (.sl 4)), (3, (.sl 5))])
 (.ret [2, 3])))))⟩
theorem comp37 : compile Tryd.prog Tryd.f37 = some code37 := by kernel_rfl
theorem okf37 : okFn Tryd.prog 37 = true := by kernel_rfl
-- 57: gosem.cut.vars NOT COMPILED
/-- All of them. -/
def codes : List (Nat × FCode) := [(2, code2), (3, code3), (4, code4), (5, code5), (6, code6), (7, code7), (8, code8), (9, code9), (10, code10), (11, code11), (12, code12), (13, code13), (14, code14), (15, code15), (16, code16), (17, code17), (18, code18), (19, code19), (20, code20), (21, code21), (22, code22), (23, code23), (24, code24), (25, code25), (26, code26), (27, code27), (28, code28), (29, code29), (30, code30), (31, code31), (32, code32), (33, code33), (34, code34), (37, code37)]
def tab : Nat → Option FCode := tabOf codes
theorem codes_ok : ∀ p ∈ codes, ∃ fn, Tryd.prog.funcs[p.1]? = some fn ∧ compile Tryd.prog fn = some p.2 ∧ okFn Tryd.prog p.1 = true := by
  unfold codes
  simp only [List.forall_mem_cons]
  exact ⟨⟨_, Tryd.func2, comp2, okf2⟩, ⟨_, Tryd.func3, comp3, okf3⟩, ⟨_, Tryd.func4, comp4, okf4⟩, ⟨_, Tryd.func5, comp5, okf5⟩, ⟨_, Tryd.func6, comp6, okf6⟩, ⟨_, Tryd.func7, comp7, okf7⟩, ⟨_, Tryd.func8, comp8, okf8⟩, ⟨_, Tryd.func9, comp9, okf9⟩, ⟨_, Tryd.func10, comp10, okf10⟩, ⟨_, Tryd.func11, comp11, okf11⟩, ⟨_, Tryd.func12, comp12, okf12⟩, ⟨_, Tryd.func13, comp13, okf13⟩, ⟨_, Tryd.func14, comp14, okf14⟩, ⟨_, Tryd.func15, comp15, okf15⟩, ⟨_, Tryd.func16, comp16, okf16⟩, ⟨_, Tryd.func17, comp17, okf17⟩, ⟨_, Tryd.func18, comp18, okf18⟩, ⟨_, Tryd.func19, comp19, okf19⟩, ⟨_, Tryd.func20, comp20, okf20⟩, ⟨_, Tryd.func21, comp21, okf21⟩, ⟨_, Tryd.func22, comp22, okf22⟩, ⟨_, Tryd.func23, comp23, okf23⟩, ⟨_, Tryd.func24, comp24, okf24⟩, ⟨_, Tryd.func25, comp25, okf25⟩, ⟨_, Tryd.func26, comp26, okf26⟩, ⟨_, Tryd.func27, comp27, okf27⟩, ⟨_, Tryd.func28, comp28, okf28⟩, ⟨_, Tryd.func29, comp29, okf29⟩, ⟨_, Tryd.func30, comp30, okf30⟩, ⟨_, Tryd.func31, comp31, okf31⟩, ⟨_, Tryd.func32, comp32, okf32⟩, ⟨_, Tryd.func33, comp33, okf33⟩, ⟨_, Tryd.func34, comp34, okf34⟩, ⟨_, Tryd.func37, comp37, okf37⟩, fun _ h => by cases h⟩
end Go.Proofs.YtjbnkdlklibomaaDoor
