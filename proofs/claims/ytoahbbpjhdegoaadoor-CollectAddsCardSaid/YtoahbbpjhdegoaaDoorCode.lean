/-
  The code of the functions that the laws reach, as the evaluator runs it: printed by a program of ours off the translation, and held against it by the kernel.
-/
import Derived.Test.YtoahbbpjhdegoaaDoorProg
import Derived.Test.YtoahbbpjhdegoaaDoorVmN
import Derived.KernelRfl
namespace Go.Proofs.YtoahbbpjhdegoaaDoor
open Go.VM
/-- The package variable that the code reads: the days within which a direct debit can be returned. -/
instance glob : Glob := ⟨[(0, [.i .i64 0, .i .i64 5, .i .i64 5, .i .i64 395, .i .i64 56])]⟩
-- 2: gosem.cut.init
def code2 : FCode := ⟨0, [],
 (.s [.call (some 0) 1 []] [0])⟩
theorem comp2 : compile Tryd.prog Tryd.f2 = some code2 := by kernel_rfl
theorem okf2 : okFn Tryd.prog 2 = true := by kernel_rfl
-- 3: corebank/corebanklaw42.CollectChecks
def code3 : FCode := ⟨2, [.tmp 4],
 (.seq (.q [(4, (.k (.b false)))])
 (.seq (.seq (.q [(7, (.op (.un .not) [(.op (.call false 9) [(.sl 0)])]))])
 (.cond (.sl 7) (.seq (.q [(4, (.op (.call false 10) []))])
 (.ret [4])) .skip))
 (.seq (.q [(4, (.ite (.ite (.op (.bin .eql) [(.op (.call false 11) [(.sl 0)]), (.op (.call false 12) [(.sl 0)])]) (.op (.call false 13) [(.op (.call false 14) [(.sl 0), (.sl 1)]), (.op (.call false 15) [(.sl 0), (.sl 1)])]) (.k (.b false))) (.op (.call false 10) []) (.k (.b false))))])
 (.ret [4]))))⟩
theorem comp3 : compile Tryd.prog Tryd.f3 = some code3 := by kernel_rfl
theorem okf3 : okFn Tryd.prog 3 = true := by kernel_rfl
-- 4: corebank/corebanklaw42.CollectPresents
def code4 : FCode := ⟨3, [.tmp 6],
 (.seq (.s [.box 5 (.t 2), .as 6 (.c (.b false))] [])
 (.seq (.seq (.q [(18, (.ite (.op (.un .not) [(.op (.call false 9) [(.sl 0)])]) (.k (.b true)) (.op (.bin .gtr) [(.op .len [(.sl 1)]), (.k (.i .i64 80))])))])
 (.cond (.sl 18) (.seq (.q [(6, (.op (.call false 10) []))])
 (.ret [6])) .skip))
 (.seq (.s [.mv 21 (.t 0), .mv 22 (.t 1), .fa 23 0 9 (.t 5), .q 24 (.ld 9 true) [(.t 23)], .fa 25 9 1 (.t 5), .q 26 (.ld 1 false) [(.t 25)], .call (some 27) 16 [(.t 21), (.t 22), (.t 24), (.t 26)], .mv 20 (.t 27), .ext 28 0 20, .ext 29 1 20, .as 7 (.t 28), .as 8 (.t 29)] [21, 22, 23, 24, 25, 26, 27, 20, 28, 29])
 (.seq (.s [.mv 31 (.t 0), .mv 32 (.t 1), .fa 33 0 9 (.t 5), .q 34 (.ld 9 true) [(.t 33)], .fa 35 9 1 (.t 5), .q 36 (.ld 1 false) [(.t 35)], .call (some 37) 17 [(.t 31), (.t 32), (.t 34), (.t 36)], .mv 30 (.t 37), .ext 38 0 30, .ext 39 1 30, .as 9 (.t 38), .as 10 (.t 39)] [31, 32, 33, 34, 35, 36, 37, 30, 38, 39])
 (.seq (.q [(6, (.ite (.ite (.op (.call false 13) [(.sl 7), (.sl 9)]) (.op (.bin .eql) [(.sl 8), (.sl 10)]) (.k (.b false))) (.op (.call false 10) []) (.k (.b false))))])
 (.ret [6]))))))⟩
theorem comp4 : compile Tryd.prog Tryd.f4 = some code4 := by kernel_rfl
theorem okf4 : okFn Tryd.prog 4 = true := by kernel_rfl
-- 5: corebank/corebanklaw42.CollectReasons
def code5 : FCode := ⟨2, [.tmp 4],
 (.seq (.q [(4, (.k (.b false)))])
 (.seq (.q [(4, (.ite (.ite (.op (.bin .eql) [(.op (.call false 18) [(.sl 0)]), (.op (.call false 19) [(.sl 0)])]) (.op (.bin .eql) [(.op (.call false 20) [(.sl 1)]), (.op (.call false 21) [(.sl 1)])]) (.k (.b false))) (.op (.call false 10) []) (.k (.b false))))])
 (.ret [4])))⟩
theorem comp5 : compile Tryd.prog Tryd.f5 = some code5 := by kernel_rfl
theorem okf5 : okFn Tryd.prog 5 = true := by kernel_rfl
-- 6: corebank/corebanklaw42.CollectEnds
def code6 : FCode := ⟨2, [.tmp 4],
 (.seq (.s [.box 3 (.t 1), .as 4 (.c (.b false))] [])
 (.seq (.seq (.q [(15, (.op (.un .not) [(.op (.call false 9) [(.sl 0)])]))])
 (.cond (.sl 15) (.seq (.q [(4, (.op (.call false 10) []))])
 (.ret [4])) .skip))
 (.seq (.s [.mv 18 (.t 0), .fa 19 0 1 (.t 3), .q 20 (.ld 1 false) [(.t 19)], .fa 21 2 1 (.t 3), .q 22 (.ld 1 false) [(.t 21)], .fa 23 3 1 (.t 3), .q 24 (.ld 1 false) [(.t 23)], .call (some 25) 22 [(.t 18), (.t 20), (.t 22), (.t 24)], .mv 17 (.t 25), .ext 26 0 17, .ext 27 1 17, .as 5 (.t 26), .as 6 (.t 27)] [18, 19, 20, 21, 22, 23, 24, 25, 17, 26, 27])
 (.seq (.s [.mv 29 (.t 0), .fa 30 0 1 (.t 3), .q 31 (.ld 1 false) [(.t 30)], .fa 32 2 1 (.t 3), .q 33 (.ld 1 false) [(.t 32)], .fa 34 3 1 (.t 3), .q 35 (.ld 1 false) [(.t 34)], .call (some 36) 23 [(.t 29), (.t 31), (.t 33), (.t 35)], .mv 28 (.t 36), .ext 37 0 28, .ext 38 1 28, .as 7 (.t 37), .as 8 (.t 38)] [29, 30, 31, 32, 33, 34, 35, 36, 28, 37, 38])
 (.seq (.s [.mv 40 (.t 0), .fa 41 0 1 (.t 3), .q 42 (.ld 1 false) [(.t 41)], .fa 43 1 1 (.t 3), .q 44 (.ld 1 false) [(.t 43)], .fa 45 2 1 (.t 3), .q 46 (.ld 1 false) [(.t 45)], .call (some 47) 24 [(.t 40), (.t 42), (.t 44), (.t 46)], .mv 39 (.t 47), .ext 48 0 39, .ext 49 1 39, .as 9 (.t 48), .as 10 (.t 49)] [40, 41, 42, 43, 44, 45, 46, 47, 39, 48, 49])
 (.seq (.s [.mv 51 (.t 0), .fa 52 0 1 (.t 3), .q 53 (.ld 1 false) [(.t 52)], .fa 54 1 1 (.t 3), .q 55 (.ld 1 false) [(.t 54)], .fa 56 2 1 (.t 3), .q 57 (.ld 1 false) [(.t 56)], .call (some 58) 25 [(.t 51), (.t 53), (.t 55), (.t 57)], .mv 50 (.t 58), .ext 59 0 50, .ext 60 1 50, .as 11 (.t 59), .as 12 (.t 60)] [51, 52, 53, 54, 55, 56, 57, 58, 50, 59, 60])
 (.seq (.q [(4, (.ite (.ite (.ite (.ite (.op (.call false 13) [(.sl 5), (.sl 7)]) (.op (.bin .eql) [(.sl 6), (.sl 8)]) (.k (.b false))) (.op (.call false 13) [(.sl 9), (.sl 11)]) (.k (.b false))) (.op (.bin .eql) [(.sl 10), (.sl 12)]) (.k (.b false))) (.op (.call false 10) []) (.k (.b false))))])
 (.ret [4]))))))))⟩
theorem comp6 : compile Tryd.prog Tryd.f6 = some code6 := by kernel_rfl
theorem okf6 : okFn Tryd.prog 6 = true := by kernel_rfl
-- 7: corebank/corebanklaw42.CollectOnce
def code7 : FCode := ⟨3, [.tmp 6],
 (.seq (.s [.box 4 (.t 1), .as 6 (.c (.b false))] [])
 (.seq (.seq (.q [(26, (.ite (.op (.un .not) [(.op (.call false 9) [(.sl 0)])]) (.k (.b true)) (.op (.bin .neq) [(.op (.call false 11) [(.sl 0)]), (.k (.i .i64 0))])))])
 (.cond (.sl 26) (.seq (.q [(6, (.op (.call false 10) []))])
 (.ret [6])) .skip))
 (.seq (.s [.mv 29 (.t 0), .fa 30 0 1 (.t 4), .q 31 (.ld 1 false) [(.t 30)], .fa 32 2 1 (.t 4), .q 33 (.ld 1 false) [(.t 32)], .fa 34 3 1 (.t 4), .q 35 (.ld 1 false) [(.t 34)], .call (some 36) 22 [(.t 29), (.t 31), (.t 33), (.t 35)], .mv 28 (.t 36), .ext 37 0 28, .ext 38 1 28, .as 7 (.t 37), .as 8 (.t 38)] [29, 30, 31, 32, 33, 34, 35, 36, 28, 37, 38])
 (.seq (.seq (.q [(40, (.op (.bin .neq) [(.sl 8), (.k (.i .i64 0))]))])
 (.cond (.sl 40) (.seq (.q [(6, (.ite (.op (.bin .eql) [(.op .len [(.sl 7)]), (.k (.i .i64 0))]) (.op (.call false 10) []) (.k (.b false))))])
 (.ret [6])) .skip))
 (.seq (.s [.mv 48 (.t 7), .fa 49 0 1 (.t 4), .q 50 (.ld 1 false) [(.t 49)], .fa 51 2 1 (.t 4), .q 52 (.ld 1 false) [(.t 51)], .call (some 53) 22 [(.t 48), (.t 50), (.t 52), (.c (.i .i64 0))], .mv 47 (.t 53), .ext 54 0 47, .ext 55 1 47, .as 9 (.t 54), .as 10 (.t 55)] [48, 49, 50, 51, 52, 53, 47, 54, 55, 9])
 (.seq (.seq (.q [(70, (.ite (.ite (.op (.un .not) [(.op (.call false 26) [(.sl 0), (.sl 7), (.op (.ld 1 false) [(.op (.fa 0 1) [(.sl 4)])])])]) (.k (.b true)) (.op (.bin .neq) [(.sl 10), (.k (.i .i64 17))])) (.k (.b true)) (.op (.bin .neq) [(.op (.call false 11) [(.sl 7)]), (.k (.i .i64 0))])))])
 (.cond (.sl 70) (.seq (.q [(6, (.k (.b false)))])
 (.ret [6])) .skip))
 (.seq (.s [.mv 72 (.t 7), .fa 73 0 1 (.t 4), .q 74 (.ld 1 false) [(.t 73)], .fa 75 1 1 (.t 4), .q 76 (.ld 1 false) [(.t 75)], .mv 77 (.t 2), .call (some 78) 24 [(.t 72), (.t 74), (.t 76), (.t 77)], .mv 71 (.t 78), .ext 79 0 71, .ext 80 1 71, .as 11 (.t 79), .as 12 (.t 80)] [72, 73, 74, 75, 76, 77, 78, 71, 79, 80])
 (.seq (.seq (.s [.mv 82 (.t 0), .fa 83 0 1 (.t 4), .q 84 (.ld 1 false) [(.t 83)], .fa 85 1 1 (.t 4), .q 86 (.ld 1 false) [(.t 85)], .mv 87 (.t 2), .call (some 88) 24 [(.t 82), (.t 84), (.t 86), (.t 87)], .mv 81 (.t 88), .ext 89 0 81, .ext 90 1 81, .as 13 (.t 89), .as 14 (.t 90)] [82, 83, 84, 85, 86, 87, 88, 81, 89, 90, 13])
 (.seq (.q [(92, (.op (.bin .neq) [(.sl 14), (.k (.i .i64 17))]))])
 (.cond (.sl 92) (.seq (.q [(6, (.k (.b false)))])
 (.ret [6])) .skip)))
 (.seq (.seq (.q [(94, (.op (.bin .neq) [(.sl 12), (.k (.i .i64 0))]))])
 (.cond (.sl 94) (.seq (.q [(6, (.ite (.ite (.op (.bin .eql) [(.op .len [(.sl 11)]), (.k (.i .i64 0))]) (.ite (.op (.bin .eql) [(.op (.ld 1 false) [(.op (.fa 3 1) [(.sl 4)])]), (.k (.i .i64 0))]) (.k (.b true)) (.op (.bin .eql) [(.sl 12), (.k (.i .i64 17))])) (.k (.b false))) (.op (.call false 10) []) (.k (.b false))))])
 (.ret [6])) .skip))
 (.seq (.s [.mv 111 (.t 11), .fa 112 0 1 (.t 4), .q 113 (.ld 1 false) [(.t 112)], .fa 114 1 1 (.t 4), .q 115 (.ld 1 false) [(.t 114)], .mv 116 (.t 2), .call (some 117) 24 [(.t 111), (.t 113), (.t 115), (.t 116)], .mv 110 (.t 117), .ext 118 0 110, .ext 119 1 110, .as 15 (.t 118), .as 16 (.t 119)] [111, 112, 113, 114, 115, 116, 117, 110, 118, 119, 15])
 (.seq (.s [.mv 121 (.t 11), .fa 122 0 1 (.t 4), .q 123 (.ld 1 false) [(.t 122)], .fa 124 2 1 (.t 4), .q 125 (.ld 1 false) [(.t 124)], .call (some 126) 22 [(.t 121), (.t 123), (.t 125), (.c (.i .i64 0))], .mv 120 (.t 126), .ext 127 0 120, .ext 128 1 120, .as 17 (.t 127), .as 18 (.t 128)] [121, 122, 123, 124, 125, 126, 120, 127, 128, 17])
 (.seq (.q [(6, (.ite (.ite (.ite (.ite (.ite (.op (.bin .eql) [(.op (.ld 1 false) [(.op (.fa 3 1) [(.sl 4)])]), (.k (.i .i64 0))]) (.op (.call false 26) [(.sl 7), (.sl 11), (.op (.ld 1 false) [(.op (.fa 0 1) [(.sl 4)])])]) (.k (.b false))) (.op (.bin .eql) [(.sl 16), (.k (.i .i64 17))]) (.k (.b false))) (.op (.bin .eql) [(.sl 18), (.k (.i .i64 17))]) (.k (.b false))) (.op (.bin .eql) [(.op (.call false 11) [(.sl 11)]), (.k (.i .i64 0))]) (.k (.b false))) (.op (.call false 10) []) (.k (.b false))))])
 (.ret [6])))))))))))))⟩
theorem comp7 : compile Tryd.prog Tryd.f7 = some code7 := by kernel_rfl
theorem okf7 : okFn Tryd.prog 7 = true := by kernel_rfl
-- 8: corebank/corebanklaw42.CollectAdds
def code8 : FCode := ⟨3, [.tmp 6],
 (.seq (.s [.box 5 (.t 2), .as 6 (.c (.b false))] [])
 (.seq (.seq (.q [(26, (.ite (.ite (.op (.un .not) [(.op (.call false 9) [(.sl 0)])]) (.k (.b true)) (.op (.bin .gtr) [(.op .len [(.sl 1)]), (.k (.i .i64 80))])) (.k (.b true)) (.op (.bin .lss) [(.op (.ld 1 false) [(.op (.fa 1 1) [(.op (.fa 0 9) [(.sl 5)])])]), (.k (.i .i64 1))])))])
 (.cond (.sl 26) (.seq (.q [(6, (.op (.call false 10) []))])
 (.ret [6])) .skip))
 (.seq (.s [.mv 29 (.t 0), .mv 30 (.t 1), .fa 31 0 9 (.t 5), .q 32 (.ld 9 true) [(.t 31)], .fa 33 9 1 (.t 5), .q 34 (.ld 1 false) [(.t 33)], .call (some 35) 16 [(.t 29), (.t 30), (.t 32), (.t 34)], .mv 28 (.t 35), .ext 36 0 28, .ext 37 1 28, .as 7 (.t 36), .as 8 (.t 37)] [29, 30, 31, 32, 33, 34, 35, 28, 36, 37])
 (.seq (.seq (.q [(39, (.op (.bin .neq) [(.sl 8), (.k (.i .i64 0))]))])
 (.cond (.sl 39) (.seq (.q [(6, (.ite (.op (.bin .eql) [(.op .len [(.sl 7)]), (.k (.i .i64 0))]) (.op (.call false 10) []) (.k (.b false))))])
 (.ret [6])) .skip))
 (.seq (.q [(9, (.op .len [(.sl 0)]))])
 (.seq (.seq (.q [(79, (.ite (.ite (.ite (.op (.bin .neq) [(.op .len [(.sl 7)]), (.op (.bin .add) [(.sl 9), (.k (.i .i64 1))])]) (.k (.b true)) (.op (.un .not) [(.op (.call true 13) [(.op (.slc 9 false true) [(.sl 7), (.sl 9)]), (.sl 0)])])) (.k (.b true)) (.op (.eqa true [1, 1, 1, 1, 1, 1, 1, 1, 2]) [(.op (.ld 9 true) [(.op (.ix 9) [(.sl 7), (.sl 9)])]), (.op (.ld 9 true) [(.op (.fa 0 9) [(.sl 5)])])])) (.k (.b true)) (.ite (.op (.bin .eql) [(.op (.call true 11) [(.sl 0)]), (.k (.i .i64 0))]) (.op (.bin .neq) [(.op (.call true 11) [(.sl 7)]), (.k (.i .i64 0))]) (.k (.b false)))))])
 (.cond (.sl 79) (.seq (.q [(6, (.k (.b false)))])
 (.ret [6])) .skip))
 (.seq (.s [.mv 81 (.t 7), .mv 82 (.t 1), .fa 83 0 9 (.t 5), .q 84 (.ld 9 true) [(.t 83)], .fa 85 9 1 (.t 5), .q 86 (.ld 1 false) [(.t 85)], .call (some 87) 16 [(.t 81), (.t 82), (.t 84), (.t 86)], .mv 80 (.t 87), .ext 88 0 80, .ext 89 1 80, .as 10 (.t 88), .as 11 (.t 89)] [81, 82, 83, 84, 85, 86, 87, 80, 88, 89])
 (.seq (.s [.mv 90 (.t 7), .fa 91 0 9 (.t 5), .fa 92 3 1 (.t 91), .q 93 (.ld 1 false) [(.t 92)], .call (some 94) 14 [(.t 90), (.t 93)], .as 12 (.t 94)] [90, 91, 92, 93, 94])
 (.seq (.q [(6, (.ite (.ite (.ite (.ite (.ite (.op (.bin .eql) [(.sl 11), (.k (.i .i64 10))]) (.op (.bin .eql) [(.op .len [(.sl 10)]), (.k (.i .i64 0))]) (.k (.b false))) (.op (.bin .gtr) [(.op .len [(.sl 12)]), (.k (.i .i64 0))]) (.k (.b false))) (.op (.eqa false [1, 1, 1, 1, 1, 1, 1, 1, 2]) [(.op (.ld 9 true) [(.op (.ix 9) [(.sl 12), (.op (.bin .sub) [(.op .len [(.sl 12)]), (.k (.i .i64 1))])])]), (.op (.ld 9 true) [(.op (.fa 0 9) [(.sl 5)])])]) (.k (.b false))) (.op (.bin .lss) [(.op .len [(.op (.call false 14) [(.sl 7), (.op (.bin .sub) [(.op (.ld 1 false) [(.op (.fa 3 1) [(.op (.fa 0 9) [(.sl 5)])])]), (.k (.i .i64 1))])])]), (.op .len [(.sl 12)])]) (.k (.b false))) (.op (.call false 10) []) (.k (.b false))))])
 (.ret [6]))))))))))⟩
theorem comp8 : compile Tryd.prog Tryd.f8 = some code8 := by kernel_rfl
theorem okf8 : okFn Tryd.prog 8 = true := by kernel_rfl
-- 9: corebank/corebanklaw42.few
def code9 : FCode := ⟨1, [.tmp 2],
 (.seq (.q [(2, (.k (.b false)))])
 (.seq (.q [(2, (.op (.bin .leq) [(.op .len [(.sl 0)]), (.k (.i .i64 80))]))])
 (.ret [2])))⟩
theorem comp9 : compile Tryd.prog Tryd.f9 = some code9 := by kernel_rfl
theorem okf9 : okFn Tryd.prog 9 = true := by kernel_rfl
-- 10: corebank/corebanklaw42.lives
def code10 : FCode := ⟨0, [.tmp 0],
 (.seq (.q [(0, (.k (.b false)))])
 (.seq (.s [.bld 12 [(.i .i64 0), (.i .i64 0), (.i .i64 0), (.i .i64 0), (.i .i64 0), (.i .i64 0), (.s [])] [(0, 1), (1, 1), (3, 1), (6, 1)] [(.c (.i .i64 5)), (.c (.i .i64 1000)), (.c (.i .i64 1)), (.c (.s [115, 104, 111, 112]))], .bsl 13 49 7 [(.t 12)], .as 1 (.t 13)] [12, 13])
 (.seq (.s [.mv 15 (.t 1), .bld 16 [(.i .i64 0), (.i .i64 0), (.i .i64 0), (.i .i64 0), (.i .i64 0), (.i .i64 0), (.i .i64 0), (.i .i64 0), (.s [])] [(0, 1), (1, 1), (2, 1), (3, 1), (7, 1), (8, 1)] [(.c (.i .i64 6)), (.c (.i .i64 5)), (.c (.i .i64 70)), (.c (.i .i64 100)), (.c (.i .i64 1)), (.c (.s [107]))], .call (some 17) 16 [(.c (.l [])), (.t 15), (.t 16), (.c (.i .i64 99))], .mv 14 (.t 17), .ext 18 0 14, .ext 19 1 14, .as 2 (.t 18), .as 3 (.t 19)] [15, 16, 17, 14, 18, 19])
 (.seq (.seq (.q [(37, (.ite (.ite (.ite (.op (.bin .neq) [(.sl 3), (.k (.i .i64 0))]) (.k (.b true)) (.op (.bin .neq) [(.op .len [(.sl 2)]), (.k (.i .i64 1))])) (.k (.b true)) (.op (.bin .neq) [(.op .len [(.op (.call false 14) [(.sl 2), (.k (.i .i64 100))])]), (.k (.i .i64 1))])) (.k (.b true)) (.op (.bin .neq) [(.op (.call false 11) [(.sl 2)]), (.k (.i .i64 0))])))])
 (.cond (.sl 37) (.seq (.q [(0, (.k (.b false)))])
 (.ret [0])) .skip))
 (.seq (.s [.mv 39 (.t 2), .call (some 40) 22 [(.t 39), (.c (.i .i64 6)), (.c (.i .i64 100)), (.c (.i .i64 0))], .mv 38 (.t 40), .ext 41 0 38, .ext 42 1 38, .as 4 (.t 41), .as 5 (.t 42)] [39, 40, 38, 41, 42])
 (.seq (.s [.mv 44 (.t 4), .call (some 45) 24 [(.t 44), (.c (.i .i64 6)), (.c (.i .i64 1)), (.c (.i .i64 105))], .mv 43 (.t 45), .ext 46 0 43, .ext 47 1 43, .as 6 (.t 46), .as 7 (.t 47)] [44, 45, 43, 46, 47])
 (.seq (.s [.mv 49 (.t 4), .call (some 50) 24 [(.t 49), (.c (.i .i64 6)), (.c (.i .i64 1)), (.c (.i .i64 106))], .mv 48 (.t 50), .ext 51 0 48, .ext 52 1 48, .as 8 (.t 51), .as 9 (.t 52)] [49, 50, 48, 51, 52, 8])
 (.seq (.s [.mv 54 (.t 2), .call (some 55) 22 [(.t 54), (.c (.i .i64 6)), (.c (.i .i64 100)), (.c (.i .i64 19))], .mv 53 (.t 55), .ext 56 0 53, .ext 57 1 53, .as 10 (.t 56), .as 11 (.t 57)] [54, 55, 53, 56, 57])
 (.seq (.q [(0, (.ite (.ite (.ite (.ite (.ite (.ite (.ite (.ite (.op (.bin .eql) [(.sl 5), (.k (.i .i64 0))]) (.op (.bin .eql) [(.sl 7), (.k (.i .i64 0))]) (.k (.b false))) (.op (.bin .eql) [(.sl 9), (.k (.i .i64 23))]) (.k (.b false))) (.op (.bin .eql) [(.sl 11), (.k (.i .i64 0))]) (.k (.b false))) (.op (.bin .eql) [(.op .len [(.sl 6)]), (.k (.i .i64 1))]) (.k (.b false))) (.op (.bin .eql) [(.op (.ld 1 false) [(.op (.fa 7 1) [(.op (.ix 9) [(.sl 6), (.k (.i .i64 0))])])]), (.k (.i .i64 3))]) (.k (.b false))) (.op (.bin .eql) [(.op .len [(.sl 10)]), (.k (.i .i64 1))]) (.k (.b false))) (.op (.bin .eql) [(.op (.ld 1 false) [(.op (.fa 6 1) [(.op (.ix 9) [(.sl 10), (.k (.i .i64 0))])])]), (.k (.i .i64 2))]) (.k (.b false))) (.op (.bin .eql) [(.op (.call false 20) [(.k (.i .i64 4))]), (.k (.i .i64 56))]) (.k (.b false))))])
 (.ret [0]))))))))))⟩
theorem comp10 : compile Tryd.prog Tryd.f10 = some code10 := by kernel_rfl
theorem okf10 : okFn Tryd.prog 10 = true := by kernel_rfl
-- 11: corebank/collect.Check
def body11_1 : C :=
 (.seq (.q [(13, (.op (.bin .lss) [(.sl 12), (.sl 11)]))])
 (.seq (.cond (.sl 13) .skip (.exit 0 []))
 (.seq (.blk 1 (.seq (.s [.mv 14 (.t 12), .ix 15 9 (.t 10) (.t 12), .q 16 (.ld 9 true) [(.t 15)], .alo 5 [(.i .i64 0), (.i .i64 0), (.i .i64 0), (.i .i64 0), (.i .i64 0), (.i .i64 0), (.i .i64 0), (.i .i64 0), (.s [])], .as 4 (.t 14), .sto 9 (.t 5) (.t 16)] [14, 15, 16])
 (.seq (.seq (.q [(47, (.ite (.ite (.ite (.ite (.ite (.op (.bin .lss) [(.op (.ld 1 false) [(.op (.fa 0 1) [(.sl 5)])]), (.k (.i .i64 1))]) (.k (.b true)) (.op (.bin .lss) [(.op (.ld 1 false) [(.op (.fa 1 1) [(.sl 5)])]), (.k (.i .i64 1))])) (.k (.b true)) (.op (.un .not) [(.op (.call false 27) [(.op (.ld 1 false) [(.op (.fa 2 1) [(.sl 5)])])])])) (.k (.b true)) (.op (.un .not) [(.op (.call false 28) [(.op (.ld 1 false) [(.op (.fa 3 1) [(.sl 5)])])])])) (.k (.b true)) (.op (.un .not) [(.op (.call false 29) [(.op (.ld 1 false) [(.op (.fa 8 1) [(.sl 5)])])])])) (.k (.b true)) (.op (.un .not) [(.op (.call false 30) [(.op (.ld 9 true) [(.sl 5)])])])))])
 (.cond (.sl 47) (.seq (.q [(2, (.k (.i .i64 1)))])
 (.ret [2])) .skip))
 (.seq (.seq (.q [(60, (.ite (.op (.bin .gtr) [(.sl 4), (.k (.i .i64 0))]) (.op (.bin .leq) [(.op (.ld 1 false) [(.op (.fa 0 1) [(.sl 5)])]), (.op (.ld 1 false) [(.op (.fa 0 1) [(.op (.ix 9) [(.sl 0), (.op (.bin .sub) [(.sl 4), (.k (.i .i64 1))])])])])]) (.k (.b false))))])
 (.cond (.sl 60) (.seq (.q [(2, (.k (.i .i64 10)))])
 (.ret [2])) .skip))
 (.seq (.seq (.s [.mv 61 (.t 3), .fa 62 8 1 (.t 5), .q 63 (.ld 1 false) [(.t 62)], .mget 64 1 (.b false) (.t 61) (.t 63)] [61, 62, 63])
 (.cond (.sl 64) (.seq (.q [(2, (.k (.i .i64 12)))])
 (.ret [2])) .skip))
 (.s [.mv 65 (.t 3), .fa 66 8 1 (.t 5), .q 67 (.ld 1 false) [(.t 66)], .mset 1 (.t 65) (.t 67) (.c (.b true))] [65, 66, 67]))))))
 (.q [(12, (.op (.bin .add) [(.sl 12), (.k (.i .i64 1))]))]))))
def code11 : FCode := ⟨1, [.tmp 2],
 (.seq (.q [(2, (.k (.i .i64 0)))])
 (.seq (.seq (.q [(8, (.op (.bin .gtr) [(.op .len [(.sl 0)]), (.k (.i .i64 64))]))])
 (.cond (.sl 8) (.seq (.q [(2, (.k (.i .i64 5)))])
 (.ret [2])) .skip))
 (.seq (.s [.mkm 9, .as 3 (.t 9)] [9])
 (.seq (.seq (.s [.mv 10 (.t 0), .q 11 .len [(.t 10)], .mv 12 (.c (.i .i64 0))] [])
 (.blk 0 (.loop [0, 3, 10, 11, 12] body11_1)))
 (.seq (.q [(2, (.k (.i .i64 0)))])
 (.ret [2]))))))⟩
theorem comp11 : compile Tryd.prog Tryd.f11 = some code11 := by kernel_rfl
theorem okf11 : okFn Tryd.prog 11 = true := by kernel_rfl
-- 12: corebank/corebankref42.Check
def body12_1 : C :=
 (.seq (.seq (.q [(10, (.op (.bin .lss) [(.sl 3), (.op .len [(.sl 0)])]))])
 (.cond (.sl 10) .skip (.exit 0 [])))
 (.seq (.blk 1 (.seq (.seq (.q [(34, (.ite (.ite (.op (.un .not) [(.op (.call false 31) [(.op (.ld 9 true) [(.op (.ix 9) [(.sl 0), (.sl 3)])])])]) (.k (.b true)) (.op (.bin .lss) [(.op (.ld 1 false) [(.op (.fa 1 1) [(.op (.ix 9) [(.sl 0), (.sl 3)])])]), (.k (.i .i64 1))])) (.k (.b true)) (.op (.un .not) [(.op (.call false 32) [(.op (.ld 9 true) [(.op (.ix 9) [(.sl 0), (.sl 3)])])])])))])
 (.cond (.sl 34) (.seq (.q [(2, (.k (.i .i64 1)))])
 (.ret [2])) .skip))
 (.seq (.seq (.q [(50, (.ite (.op (.bin .gtr) [(.sl 3), (.k (.i .i64 0))]) (.op (.bin .leq) [(.op (.ld 1 false) [(.op (.fa 0 1) [(.op (.ix 9) [(.sl 0), (.sl 3)])])]), (.op (.ld 1 false) [(.op (.fa 0 1) [(.op (.ix 9) [(.sl 0), (.op (.bin .sub) [(.sl 3), (.k (.i .i64 1))])])])])]) (.k (.b false))))])
 (.cond (.sl 50) (.seq (.q [(2, (.k (.i .i64 10)))])
 (.ret [2])) .skip))
 (.seq (.q [(59, (.op (.call true 33) [(.op (.slc 9 false true) [(.sl 0), (.sl 3)]), (.op (.ld 1 false) [(.op (.fa 8 1) [(.op (.ix 9) [(.sl 0), (.sl 3)])])])]))])
 (.cond (.sl 59) (.seq (.q [(2, (.k (.i .i64 12)))])
 (.ret [2])) .skip)))))
 (.q [(3, (.op (.bin .add) [(.sl 3), (.k (.i .i64 1))]))])))
def code12 : FCode := ⟨1, [.tmp 2],
 (.seq (.q [(2, (.k (.i .i64 0)))])
 (.seq (.seq (.q [(6, (.op (.bin .gtr) [(.op .len [(.sl 0)]), (.k (.i .i64 64))]))])
 (.cond (.sl 6) (.seq (.q [(2, (.k (.i .i64 5)))])
 (.ret [2])) .skip))
 (.seq (.seq (.q [(3, (.k (.i .i64 0)))])
 (.blk 0 (.loop [0, 3] body12_1)))
 (.seq (.q [(2, (.k (.i .i64 0)))])
 (.ret [2])))))⟩
theorem comp12 : compile Tryd.prog Tryd.f12 = some code12 := by kernel_rfl
theorem okf12 : okFn Tryd.prog 12 = true := by kernel_rfl
-- 13: corebank/corebankref42.SameAll
def body13_1 : C :=
 (.seq (.seq (.q [(14, (.op (.bin .lss) [(.sl 5), (.op .len [(.sl 0)])]))])
 (.cond (.sl 14) .skip (.exit 0 [])))
 (.seq (.blk 1 (.seq (.q [(25, (.op (.eqa true [1, 1, 1, 1, 1, 1, 1, 1, 2]) [(.op (.ld 9 true) [(.op (.ix 9) [(.sl 0), (.sl 5)])]), (.op (.ld 9 true) [(.op (.ix 9) [(.sl 1), (.sl 5)])])]))])
 (.cond (.sl 25) (.seq (.q [(4, (.k (.b false)))])
 (.ret [4])) .skip)))
 (.q [(5, (.op (.bin .add) [(.sl 5), (.k (.i .i64 1))]))])))
def code13 : FCode := ⟨2, [.tmp 4],
 (.seq (.q [(4, (.k (.b false)))])
 (.seq (.seq (.q [(10, (.op (.bin .neq) [(.op .len [(.sl 0)]), (.op .len [(.sl 1)])]))])
 (.cond (.sl 10) (.seq (.q [(4, (.k (.b false)))])
 (.ret [4])) .skip))
 (.seq (.seq (.q [(5, (.k (.i .i64 0)))])
 (.blk 0 (.loop [0, 1, 5] body13_1)))
 (.seq (.q [(4, (.k (.b true)))])
 (.ret [4])))))⟩
theorem comp13 : compile Tryd.prog Tryd.f13 = some code13 := by kernel_rfl
theorem okf13 : okFn Tryd.prog 13 = true := by kernel_rfl
-- 14: corebank/collect.Due
def body14_1 : C :=
 (.seq (.q [(11, (.op (.bin .lss) [(.sl 10), (.sl 9)]))])
 (.seq (.cond (.sl 11) .skip (.exit 0 [5]))
 (.seq (.blk 1 (.seq (.s [.ix 12 9 (.t 8) (.t 10), .q 13 (.ld 9 true) [(.t 12)], .alo 7 [(.i .i64 0), (.i .i64 0), (.i .i64 0), (.i .i64 0), (.i .i64 0), (.i .i64 0), (.i .i64 0), (.i .i64 0), (.s [])], .sto 9 (.t 7) (.t 13)] [12, 13])
 (.seq (.q [(22, (.ite (.op (.bin .eql) [(.op (.ld 1 false) [(.op (.fa 7 1) [(.sl 7)])]), (.k (.i .i64 1))]) (.op (.bin .leq) [(.op (.ld 1 false) [(.op (.fa 3 1) [(.sl 7)])]), (.sl 1)]) (.k (.b false))))])
 (.cond (.sl 22) (.s [.mv 23 (.t 5), .q 24 (.ld 9 true) [(.t 7)], .bsl 25 32 9 [(.t 24)], .app 26 32 9 80 (.t 23) (.t 25), .as 5 (.t 26)] [23, 24, 25, 26]) .skip))))
 (.q [(10, (.op (.bin .add) [(.sl 10), (.k (.i .i64 1))]))]))))
def code14 : FCode := ⟨2, [.tmp 4],
 (.seq (.s [.as 4 (.c (.ow 32 []))] [])
 (.seq (.s [.as 5 (.c (.ow 32 []))] [])
 (.seq (.seq (.s [.mv 8 (.t 0), .q 9 .len [(.t 8)], .mv 10 (.c (.i .i64 0))] [])
 (.blk 0 (.loop [1, 5, 8, 9, 10] body14_1)))
 (.seq (.s [.mv 28 (.t 5), .as 4 (.t 28)] [28])
 (.ret [4])))))⟩
theorem comp14 : compile Tryd.prog Tryd.f14 = some code14 := by kernel_rfl
theorem okf14 : okFn Tryd.prog 14 = true := by kernel_rfl
-- 15: corebank/corebankref42.Due
def body15_1 : C :=
 (.seq (.seq (.q [(10, (.op (.bin .lss) [(.sl 6), (.op .len [(.sl 0)])]))])
 (.cond (.sl 10) .skip (.exit 0 [5])))
 (.seq (.blk 1 (.seq (.q [(27, (.ite (.op (.bin .eql) [(.op (.ld 1 false) [(.op (.fa 7 1) [(.op (.ix 9) [(.sl 0), (.sl 6)])])]), (.k (.i .i64 1))]) (.op (.bin .leq) [(.op (.ld 1 false) [(.op (.fa 3 1) [(.op (.ix 9) [(.sl 0), (.sl 6)])])]), (.sl 1)]) (.k (.b false))))])
 (.cond (.sl 27) (.s [.mv 28 (.t 5), .mv 29 (.t 0), .mv 30 (.t 6), .ix 31 9 (.t 29) (.t 30), .q 32 (.ld 9 true) [(.t 31)], .bsl 33 32 9 [(.t 32)], .app 34 32 9 80 (.t 28) (.t 33), .as 5 (.t 34)] [28, 29, 30, 31, 32, 33, 34]) .skip)))
 (.q [(6, (.op (.bin .add) [(.sl 6), (.k (.i .i64 1))]))])))
def code15 : FCode := ⟨2, [.tmp 4],
 (.seq (.s [.as 4 (.c (.ow 32 []))] [])
 (.seq (.s [.as 5 (.c (.ow 32 []))] [])
 (.seq (.seq (.q [(6, (.k (.i .i64 0)))])
 (.blk 0 (.loop [0, 1, 5, 6] body15_1)))
 (.seq (.s [.mv 35 (.t 5), .as 4 (.t 35)] [35])
 (.ret [4])))))⟩
theorem comp15 : compile Tryd.prog Tryd.f15 = some code15 := by kernel_rfl
theorem okf15 : okFn Tryd.prog 15 = true := by kernel_rfl
-- 16: corebank/collect.Present
def code16 : FCode := ⟨4, [.tmp 8, .tmp 9],
 (.seq (.s [.box 6 (.t 2), .as 8 (.c (.ow 32 [])), .as 9 (.c (.i .i64 0))] [])
 (.seq (.seq (.q [(41, (.ite (.ite (.ite (.ite (.ite (.op (.bin .lss) [(.op (.ld 1 false) [(.op (.fa 0 1) [(.sl 6)])]), (.k (.i .i64 1))]) (.k (.b true)) (.op (.un .not) [(.op (.call false 27) [(.op (.ld 1 false) [(.op (.fa 2 1) [(.sl 6)])])])])) (.k (.b true)) (.op (.un .not) [(.op (.call false 28) [(.op (.ld 1 false) [(.op (.fa 3 1) [(.sl 6)])])])])) (.k (.b true)) (.op (.un .not) [(.op (.call false 28) [(.sl 3)])])) (.k (.b true)) (.op (.un .not) [(.op (.call false 34) [(.op (.ld 9 true) [(.sl 6)])])])) (.k (.b true)) (.op (.un .not) [(.op (.call false 29) [(.op (.ld 1 false) [(.op (.fa 8 1) [(.sl 6)])])])])))])
 (.cond (.sl 41) (.seq (.s [.as 8 (.c (.ow 32 [])), .as 9 (.c (.i .i64 1))] [])
 (.ret [8, 9])) .skip))
 (.seq (.seq (.s [.mv 42 (.t 0), .mkf 43 (.func 36) 0 [(.t 6)], .call (some 44) 35 [(.t 42), (.t 43)]] [42, 43])
 (.cond (.sl 44) (.seq (.s [.as 8 (.c (.ow 32 [])), .as 9 (.c (.i .i64 10))] [])
 (.ret [8, 9])) .skip))
 (.seq (.seq (.s [.mv 45 (.t 0), .mkf 46 (.func 37) 0 [(.t 6)], .call (some 47) 35 [(.t 45), (.t 46)]] [45, 46])
 (.cond (.sl 47) (.seq (.s [.as 8 (.c (.ow 32 [])), .as 9 (.c (.i .i64 12))] [])
 (.ret [8, 9])) .skip))
 (.seq (.seq (.q [(10, (.op (.call false 38) [(.sl 1), (.op (.ld 1 false) [(.op (.fa 1 1) [(.sl 6)])]), (.op (.ld 1 false) [(.op (.fa 2 1) [(.sl 6)])]), (.op (.ld 1 false) [(.op (.fa 3 1) [(.sl 6)])])]))])
 (.seq (.q [(57, (.op (.bin .neq) [(.sl 10), (.k (.i .i64 0))]))])
 (.cond (.sl 57) (.seq (.s [.mv 58 (.t 10), .as 8 (.c (.ow 32 [])), .as 9 (.t 58)] [58])
 (.ret [8, 9])) .skip)))
 (.seq (.seq (.q [(62, (.op (.bin .lss) [(.op (.ld 1 false) [(.op (.fa 3 1) [(.sl 6)])]), (.sl 3)]))])
 (.cond (.sl 62) (.seq (.s [.as 8 (.c (.ow 32 [])), .as 9 (.c (.i .i64 23))] [])
 (.ret [8, 9])) .skip))
 (.seq (.seq (.q [(65, (.op (.bin .geq) [(.op .len [(.sl 0)]), (.k (.i .i64 64))]))])
 (.cond (.sl 65) (.seq (.s [.as 8 (.c (.ow 32 [])), .as 9 (.c (.i .i64 5))] [])
 (.ret [8, 9])) .skip))
 (.seq (.d [.mv 66 (.t 0), .call (some 67) 39 [(.t 66)], .q 68 (.ld 9 true) [(.t 6)], .bsl 69 32 9 [(.t 68)], .app 70 32 9 80 (.t 67) (.t 69), .as 8 (.t 70), .as 9 (.c (.i .i64 0))] [[], [0], [], [2], [1, 3, 1], [4, 4, 0, 1, 2, 3, 4], [5, 0, 1, 2, 3, 4, 5]] [66, 67, 68, 69, 70])
 (.ret [8, 9])))))))))⟩
theorem comp16 : compile Tryd.prog Tryd.f16 = some code16 := by kernel_rfl
theorem okf16 : okFn Tryd.prog 16 = true := by kernel_rfl
-- 17: corebank/corebankref42.Present
def body17_1 : C :=
 (.seq (.seq (.q [(34, (.op (.bin .lss) [(.sl 10), (.op .len [(.sl 0)])]))])
 (.cond (.sl 34) .skip (.exit 0 [0, 1, 3, 6])))
 (.seq (.blk 1 (.seq (.q [(44, (.op (.bin .geq) [(.op (.ld 1 false) [(.op (.fa 0 1) [(.op (.ix 9) [(.sl 0), (.sl 10)])])]), (.op (.ld 1 false) [(.op (.fa 0 1) [(.sl 6)])])]))])
 (.cond (.sl 44) (.seq (.s [.as 8 (.c (.ow 32 [])), .as 9 (.c (.i .i64 10))] [])
 (.ret [8, 9])) .skip)))
 (.q [(10, (.op (.bin .add) [(.sl 10), (.k (.i .i64 1))]))])))
def code17 : FCode := ⟨4, [.tmp 8, .tmp 9],
 (.seq (.s [.box 6 (.t 2), .as 8 (.c (.ow 32 [])), .as 9 (.c (.i .i64 0))] [])
 (.seq (.seq (.q [(30, (.ite (.ite (.ite (.op (.un .not) [(.op (.call false 31) [(.op (.ld 9 true) [(.sl 6)])])]) (.k (.b true)) (.op (.un .not) [(.op (.call false 40) [(.sl 3)])])) (.k (.b true)) (.op (.bin .neq) [(.op (.ld 1 false) [(.op (.fa 7 1) [(.sl 6)])]), (.k (.i .i64 1))])) (.k (.b true)) (.op (.un .not) [(.op (.call false 32) [(.op (.ld 9 true) [(.sl 6)])])])))])
 (.cond (.sl 30) (.seq (.s [.as 8 (.c (.ow 32 [])), .as 9 (.c (.i .i64 1))] [])
 (.ret [8, 9])) .skip))
 (.seq (.seq (.q [(10, (.k (.i .i64 0)))])
 (.blk 0 (.loop [0, 1, 3, 6, 10] body17_1)))
 (.seq (.seq (.q [(48, (.op (.call false 33) [(.sl 0), (.op (.ld 1 false) [(.op (.fa 8 1) [(.sl 6)])])]))])
 (.cond (.sl 48) (.seq (.s [.as 8 (.c (.ow 32 [])), .as 9 (.c (.i .i64 12))] [])
 (.ret [8, 9])) .skip))
 (.seq (.seq (.q [(11, (.op (.call false 41) [(.sl 1), (.op (.ld 1 false) [(.op (.fa 1 1) [(.sl 6)])]), (.op (.ld 1 false) [(.op (.fa 2 1) [(.sl 6)])]), (.op (.ld 1 false) [(.op (.fa 3 1) [(.sl 6)])])]))])
 (.seq (.q [(58, (.op (.bin .neq) [(.sl 11), (.k (.i .i64 0))]))])
 (.cond (.sl 58) (.seq (.s [.mv 59 (.t 11), .as 8 (.c (.ow 32 [])), .as 9 (.t 59)] [59])
 (.ret [8, 9])) .skip)))
 (.seq (.seq (.q [(63, (.op (.bin .lss) [(.op (.ld 1 false) [(.op (.fa 3 1) [(.sl 6)])]), (.sl 3)]))])
 (.cond (.sl 63) (.seq (.s [.as 8 (.c (.ow 32 [])), .as 9 (.c (.i .i64 23))] [])
 (.ret [8, 9])) .skip))
 (.seq (.seq (.q [(66, (.op (.bin .geq) [(.op .len [(.sl 0)]), (.k (.i .i64 64))]))])
 (.cond (.sl 66) (.seq (.s [.as 8 (.c (.ow 32 [])), .as 9 (.c (.i .i64 5))] [])
 (.ret [8, 9])) .skip))
 (.seq (.s [.bsl 67 32 9 [], .mv 68 (.t 0), .app 69 32 9 80 (.t 67) (.t 68), .as 12 (.t 69)] [67, 68, 69])
 (.seq (.s [.mv 70 (.t 12), .q 71 (.ld 9 true) [(.t 6)], .bsl 72 32 9 [(.t 71)], .app 73 32 9 80 (.t 70) (.t 72), .as 8 (.t 73), .as 9 (.c (.i .i64 0))] [70, 71, 72, 73])
 (.ret [8, 9]))))))))))⟩
theorem comp17 : compile Tryd.prog Tryd.f17 = some code17 := by kernel_rfl
theorem okf17 : okFn Tryd.prog 17 = true := by kernel_rfl
-- 18: corebank/collect.Reason
def code18 : FCode := ⟨1, [.tmp 2],
 (.seq (.q [(2, (.k (.i .i64 0)))])
 (.seq (.seq (.q [(3, (.sl 0))])
 (.blk 0 (.seq (.q [(4, (.op (.bin .eql) [(.sl 3), (.k (.i .i64 0))]))])
 (.cond (.sl 4) (.seq (.q [(2, (.k (.i .i64 0)))])
 (.ret [2])) (.seq (.seq (.q [(6, (.op (.bin .eql) [(.sl 3), (.k (.i .i64 18))]))])
 (.cond (.sl 6) .skip (.q [(6, (.op (.bin .eql) [(.sl 3), (.k (.i .i64 20))]))])))
 (.cond (.sl 6) (.seq (.q [(2, (.k (.i .i64 1)))])
 (.ret [2])) (.seq (.seq (.q [(9, (.op (.bin .eql) [(.sl 3), (.k (.i .i64 16))]))])
 (.cond (.sl 9) .skip (.q [(9, (.op (.bin .eql) [(.sl 3), (.k (.i .i64 19))]))])))
 (.cond (.sl 9) (.seq (.q [(2, (.k (.i .i64 2)))])
 (.ret [2])) .skip))))))))
 (.seq (.q [(2, (.k (.i .i64 3)))])
 (.ret [2]))))⟩
theorem comp18 : compile Tryd.prog Tryd.f18 = some code18 := by kernel_rfl
theorem okf18 : okFn Tryd.prog 18 = true := by kernel_rfl
-- 19: corebank/corebankref42.Reason
def code19 : FCode := ⟨1, [.tmp 2],
 (.seq (.q [(2, (.k (.i .i64 0)))])
 (.seq (.seq (.q [(3, (.sl 0))])
 (.blk 0 (.seq (.q [(4, (.op (.bin .eql) [(.sl 3), (.k (.i .i64 0))]))])
 (.cond (.sl 4) (.seq (.q [(2, (.k (.i .i64 0)))])
 (.ret [2])) (.seq (.seq (.q [(6, (.op (.bin .eql) [(.sl 3), (.k (.i .i64 18))]))])
 (.cond (.sl 6) .skip (.q [(6, (.op (.bin .eql) [(.sl 3), (.k (.i .i64 20))]))])))
 (.cond (.sl 6) (.seq (.q [(2, (.k (.i .i64 1)))])
 (.ret [2])) (.seq (.seq (.q [(9, (.op (.bin .eql) [(.sl 3), (.k (.i .i64 16))]))])
 (.cond (.sl 9) .skip (.q [(9, (.op (.bin .eql) [(.sl 3), (.k (.i .i64 19))]))])))
 (.cond (.sl 9) (.seq (.q [(2, (.k (.i .i64 2)))])
 (.ret [2])) .skip))))))))
 (.seq (.q [(2, (.k (.i .i64 3)))])
 (.ret [2]))))⟩
theorem comp19 : compile Tryd.prog Tryd.f19 = some code19 := by kernel_rfl
theorem okf19 : okFn Tryd.prog 19 = true := by kernel_rfl
-- 20: corebank/collect.Window
def code20 : FCode := ⟨1, [.tmp 2],
 (.seq (.q [(2, (.k (.i .i64 0)))])
 (.seq (.seq (.q [(8, (.ite (.op (.bin .lss) [(.sl 0), (.k (.i .i64 0))]) (.k (.b true)) (.op (.bin .geq) [(.sl 0), (.k (.i .i64 5))])))])
 (.cond (.sl 8) (.seq (.q [(2, (.k (.i .i64 0)))])
 (.ret [2])) .skip))
 (.seq (.q [(2, (.op (.ld 1 false) [(.op (.pix 5 1) [(.k (.r [(.i .i64 0), (.i .i64 5), (.i .i64 5), (.i .i64 395), (.i .i64 56)])), (.sl 0)])]))])
 (.ret [2]))))⟩
theorem comp20 : compile Tryd.prog Tryd.f20 = some code20 := by kernel_rfl
theorem okf20 : okFn Tryd.prog 20 = true := by kernel_rfl
-- 21: corebank/corebankref42.Window
def code21 : FCode := ⟨1, [.tmp 2],
 (.seq (.q [(2, (.k (.i .i64 0)))])
 (.seq (.seq (.q [(3, (.sl 0))])
 (.blk 0 (.seq (.seq (.q [(4, (.op (.bin .eql) [(.sl 3), (.k (.i .i64 1))]))])
 (.cond (.sl 4) .skip (.q [(4, (.op (.bin .eql) [(.sl 3), (.k (.i .i64 2))]))])))
 (.cond (.sl 4) (.seq (.q [(2, (.k (.i .i64 5)))])
 (.ret [2])) (.seq (.q [(7, (.op (.bin .eql) [(.sl 3), (.k (.i .i64 3))]))])
 (.cond (.sl 7) (.seq (.q [(2, (.k (.i .i64 395)))])
 (.ret [2])) (.seq (.q [(9, (.op (.bin .eql) [(.sl 3), (.k (.i .i64 4))]))])
 (.cond (.sl 9) (.seq (.q [(2, (.k (.i .i64 56)))])
 (.ret [2])) .skip))))))))
 (.seq (.q [(2, (.k (.i .i64 0)))])
 (.ret [2]))))⟩
theorem comp21 : compile Tryd.prog Tryd.f21 = some code21 := by kernel_rfl
theorem okf21 : okFn Tryd.prog 21 = true := by kernel_rfl
-- 22: corebank/collect.Settle
def code22 : FCode := ⟨4, [.tmp 8, .tmp 9],
 (.seq (.s [.as 8 (.c (.ow 32 [])), .as 9 (.c (.i .i64 0))] [])
 (.seq (.q [(10, (.op (.call false 42) [(.sl 0), (.sl 1)]))])
 (.seq (.blk 0 (.seq (.q [(15, (.op (.bin .lss) [(.sl 10), (.k (.i .i64 0))]))])
 (.cond (.sl 15) (.seq (.s [.as 8 (.c (.ow 32 [])), .as 9 (.c (.i .i64 11))] [])
 (.ret [8, 9])) (.seq (.q [(18, (.op (.bin .neq) [(.op (.ld 1 false) [(.op (.fa 7 1) [(.op (.ix 9) [(.sl 0), (.sl 10)])])]), (.k (.i .i64 1))]))])
 (.cond (.sl 18) (.seq (.s [.as 8 (.c (.ow 32 [])), .as 9 (.c (.i .i64 17))] [])
 (.ret [8, 9])) (.seq (.q [(25, (.op (.un .not) [(.op (.call false 28) [(.sl 2)])]))])
 (.cond (.sl 25) (.seq (.s [.as 8 (.c (.ow 32 [])), .as 9 (.c (.i .i64 1))] [])
 (.ret [8, 9])) .skip)))))))
 (.seq (.s [.mv 29 (.t 0), .call (some 30) 39 [(.t 29)], .as 11 (.t 30)] [29, 30])
 (.seq (.seq (.q [(32, (.op (.bin .eql) [(.sl 3), (.k (.i .i64 0))]))])
 (.cond (.sl 32) (.s [.mv 33 (.t 11), .mv 34 (.t 10), .mv 35 (.t 11), .mv 36 (.t 10), .mv 37 (.t 2), .ix 38 9 (.t 33) (.t 34), .fa 39 7 1 (.t 38), .sto 1 (.t 39) (.c (.i .i64 2)), .ix 40 9 (.t 35) (.t 36), .fa 41 4 1 (.t 40), .sto 1 (.t 41) (.t 37)] [33, 34, 35, 36, 37, 38, 39, 40, 41]) (.s [.mv 42 (.t 11), .mv 43 (.t 10), .mv 44 (.t 11), .mv 45 (.t 10), .mv 46 (.t 3), .call (some 47) 18 [(.t 46)], .ix 48 9 (.t 42) (.t 43), .fa 49 7 1 (.t 48), .sto 1 (.t 49) (.c (.i .i64 4)), .ix 50 9 (.t 44) (.t 45), .fa 51 6 1 (.t 50), .sto 1 (.t 51) (.t 47)] [42, 43, 44, 45, 46, 47, 48, 49, 50, 51])))
 (.seq (.s [.mv 52 (.t 11), .as 8 (.t 52), .as 9 (.c (.i .i64 0))] [52])
 (.ret [8, 9])))))))⟩
theorem comp22 : compile Tryd.prog Tryd.f22 = some code22 := by kernel_rfl
theorem okf22 : okFn Tryd.prog 22 = true := by kernel_rfl
-- 23: corebank/corebankref42.Settle
def code23 : FCode := ⟨4, [.tmp 8, .tmp 9],
 (.seq (.s [.as 8 (.c (.ow 32 [])), .as 9 (.c (.i .i64 0))] [])
 (.seq (.q [(10, (.op (.call false 43) [(.sl 0), (.sl 1)]))])
 (.seq (.seq (.q [(16, (.op (.bin .lss) [(.sl 10), (.k (.i .i64 0))]))])
 (.cond (.sl 16) (.seq (.s [.as 8 (.c (.ow 32 [])), .as 9 (.c (.i .i64 11))] [])
 (.ret [8, 9])) .skip))
 (.seq (.seq (.q [(22, (.op (.bin .neq) [(.op (.ld 1 false) [(.op (.fa 7 1) [(.op (.ix 9) [(.sl 0), (.sl 10)])])]), (.k (.i .i64 1))]))])
 (.cond (.sl 22) (.seq (.s [.as 8 (.c (.ow 32 [])), .as 9 (.c (.i .i64 17))] [])
 (.ret [8, 9])) .skip))
 (.seq (.seq (.q [(25, (.op (.un .not) [(.op (.call false 40) [(.sl 2)])]))])
 (.cond (.sl 25) (.seq (.s [.as 8 (.c (.ow 32 [])), .as 9 (.c (.i .i64 1))] [])
 (.ret [8, 9])) .skip))
 (.seq (.s [.bsl 26 32 9 [], .mv 27 (.t 0), .app 28 32 9 80 (.t 26) (.t 27), .as 11 (.t 28)] [26, 27, 28])
 (.seq (.seq (.q [(30, (.op (.bin .eql) [(.sl 3), (.k (.i .i64 0))]))])
 (.cond (.sl 30) (.s [.mv 31 (.t 11), .mv 32 (.t 10), .mv 33 (.t 11), .mv 34 (.t 10), .mv 35 (.t 2), .ix 36 9 (.t 31) (.t 32), .fa 37 7 1 (.t 36), .sto 1 (.t 37) (.c (.i .i64 2)), .ix 38 9 (.t 33) (.t 34), .fa 39 4 1 (.t 38), .sto 1 (.t 39) (.t 35)] [31, 32, 33, 34, 35, 36, 37, 38, 39]) (.s [.mv 40 (.t 11), .mv 41 (.t 10), .mv 42 (.t 11), .mv 43 (.t 10), .mv 44 (.t 3), .call (some 45) 19 [(.t 44)], .ix 46 9 (.t 40) (.t 41), .fa 47 7 1 (.t 46), .sto 1 (.t 47) (.c (.i .i64 4)), .ix 48 9 (.t 42) (.t 43), .fa 49 6 1 (.t 48), .sto 1 (.t 49) (.t 45)] [40, 41, 42, 43, 44, 45, 46, 47, 48, 49])))
 (.seq (.s [.mv 50 (.t 11), .as 8 (.t 50), .as 9 (.c (.i .i64 0))] [50])
 (.ret [8, 9])))))))))⟩
theorem comp23 : compile Tryd.prog Tryd.f23 = some code23 := by kernel_rfl
theorem okf23 : okFn Tryd.prog 23 = true := by kernel_rfl
-- 24: corebank/collect.Return
def code24 : FCode := ⟨4, [.tmp 8, .tmp 9],
 (.seq (.s [.as 8 (.c (.ow 32 [])), .as 9 (.c (.i .i64 0))] [])
 (.seq (.q [(10, (.op (.call false 42) [(.sl 0), (.sl 1)]))])
 (.seq (.blk 0 (.seq (.q [(15, (.op (.bin .lss) [(.sl 10), (.k (.i .i64 0))]))])
 (.cond (.sl 15) (.seq (.s [.as 8 (.c (.ow 32 [])), .as 9 (.c (.i .i64 11))] [])
 (.ret [8, 9])) (.seq (.q [(18, (.op (.bin .neq) [(.op (.ld 1 false) [(.op (.fa 7 1) [(.op (.ix 9) [(.sl 0), (.sl 10)])])]), (.k (.i .i64 2))]))])
 (.cond (.sl 18) (.seq (.s [.as 8 (.c (.ow 32 [])), .as 9 (.c (.i .i64 17))] [])
 (.ret [8, 9])) (.seq (.q [(25, (.ite (.ite (.ite (.op (.bin .lss) [(.sl 2), (.k (.i .i64 1))]) (.k (.b true)) (.op (.bin .gtr) [(.sl 2), (.k (.i .i64 4))])) (.k (.b true)) (.op (.un .not) [(.op (.call false 28) [(.sl 3)])])) (.k (.b true)) (.op (.bin .lss) [(.sl 3), (.op (.ld 1 false) [(.op (.fa 4 1) [(.op (.ix 9) [(.sl 0), (.sl 10)])])])])))])
 (.cond (.sl 25) (.seq (.s [.as 8 (.c (.ow 32 [])), .as 9 (.c (.i .i64 1))] [])
 (.ret [8, 9])) (.seq (.q [(46, (.op (.bin .lss) [(.op (.ld 1 false) [(.op (.fa 4 1) [(.op (.ix 9) [(.sl 0), (.sl 10)])])]), (.op (.bin .sub) [(.sl 3), (.op (.call true 20) [(.sl 2)])])]))])
 (.cond (.sl 46) (.seq (.s [.as 8 (.c (.ow 32 [])), .as 9 (.c (.i .i64 23))] [])
 (.ret [8, 9])) .skip)))))))))
 (.seq (.s [.mv 57 (.t 0), .call (some 58) 39 [(.t 57)], .as 11 (.t 58)] [57, 58])
 (.seq (.s [.mv 59 (.t 11), .mv 60 (.t 10), .mv 61 (.t 11), .mv 62 (.t 10), .mv 63 (.t 11), .mv 64 (.t 10), .mv 65 (.t 3), .mv 66 (.t 2), .ix 67 9 (.t 59) (.t 60), .fa 68 7 1 (.t 67), .sto 1 (.t 68) (.c (.i .i64 3)), .ix 69 9 (.t 61) (.t 62), .fa 70 5 1 (.t 69), .sto 1 (.t 70) (.t 65), .ix 71 9 (.t 63) (.t 64), .fa 72 6 1 (.t 71), .sto 1 (.t 72) (.t 66)] [59, 60, 61, 62, 63, 64, 65, 66, 67, 68, 69, 70, 71, 72])
 (.seq (.s [.mv 73 (.t 11), .as 8 (.t 73), .as 9 (.c (.i .i64 0))] [73])
 (.ret [8, 9])))))))⟩
theorem comp24 : compile Tryd.prog Tryd.f24 = some code24 := by kernel_rfl
theorem okf24 : okFn Tryd.prog 24 = true := by kernel_rfl
-- 25: corebank/corebankref42.Return
def code25 : FCode := ⟨4, [.tmp 8, .tmp 9],
 (.seq (.s [.as 8 (.c (.ow 32 [])), .as 9 (.c (.i .i64 0))] [])
 (.seq (.q [(10, (.op (.call false 43) [(.sl 0), (.sl 1)]))])
 (.seq (.seq (.q [(16, (.op (.bin .lss) [(.sl 10), (.k (.i .i64 0))]))])
 (.cond (.sl 16) (.seq (.s [.as 8 (.c (.ow 32 [])), .as 9 (.c (.i .i64 11))] [])
 (.ret [8, 9])) .skip))
 (.seq (.seq (.q [(22, (.op (.bin .neq) [(.op (.ld 1 false) [(.op (.fa 7 1) [(.op (.ix 9) [(.sl 0), (.sl 10)])])]), (.k (.i .i64 2))]))])
 (.cond (.sl 22) (.seq (.s [.as 8 (.c (.ow 32 [])), .as 9 (.c (.i .i64 17))] [])
 (.ret [8, 9])) .skip))
 (.seq (.seq (.q [(42, (.ite (.ite (.ite (.op (.bin .lss) [(.sl 2), (.k (.i .i64 1))]) (.k (.b true)) (.op (.bin .gtr) [(.sl 2), (.k (.i .i64 4))])) (.k (.b true)) (.op (.un .not) [(.op (.call false 40) [(.sl 3)])])) (.k (.b true)) (.op (.bin .lss) [(.sl 3), (.op (.ld 1 false) [(.op (.fa 4 1) [(.op (.ix 9) [(.sl 0), (.sl 10)])])])])))])
 (.cond (.sl 42) (.seq (.s [.as 8 (.c (.ow 32 [])), .as 9 (.c (.i .i64 1))] [])
 (.ret [8, 9])) .skip))
 (.seq (.seq (.q [(52, (.op (.bin .lss) [(.op (.ld 1 false) [(.op (.fa 4 1) [(.op (.ix 9) [(.sl 0), (.sl 10)])])]), (.op (.bin .sub) [(.sl 3), (.op (.call true 21) [(.sl 2)])])]))])
 (.cond (.sl 52) (.seq (.s [.as 8 (.c (.ow 32 [])), .as 9 (.c (.i .i64 23))] [])
 (.ret [8, 9])) .skip))
 (.seq (.s [.bsl 53 32 9 [], .mv 54 (.t 0), .app 55 32 9 80 (.t 53) (.t 54), .as 11 (.t 55)] [53, 54, 55])
 (.seq (.s [.mv 56 (.t 11), .mv 57 (.t 10), .mv 58 (.t 11), .mv 59 (.t 10), .mv 60 (.t 11), .mv 61 (.t 10), .mv 62 (.t 3), .mv 63 (.t 2), .ix 64 9 (.t 56) (.t 57), .fa 65 7 1 (.t 64), .sto 1 (.t 65) (.c (.i .i64 3)), .ix 66 9 (.t 58) (.t 59), .fa 67 5 1 (.t 66), .sto 1 (.t 67) (.t 62), .ix 68 9 (.t 60) (.t 61), .fa 69 6 1 (.t 68), .sto 1 (.t 69) (.t 63)] [56, 57, 58, 59, 60, 61, 62, 63, 64, 65, 66, 67, 68, 69])
 (.seq (.s [.mv 70 (.t 11), .as 8 (.t 70), .as 9 (.c (.i .i64 0))] [70])
 (.ret [8, 9]))))))))))⟩
theorem comp25 : compile Tryd.prog Tryd.f25 = some code25 := by kernel_rfl
theorem okf25 : okFn Tryd.prog 25 = true := by kernel_rfl
-- 26: corebank/corebanklaw42.others
def body26_1 : C :=
 (.seq (.seq (.q [(16, (.op (.bin .lss) [(.sl 7), (.op .len [(.sl 0)])]))])
 (.cond (.sl 16) .skip (.exit 0 [])))
 (.seq (.blk 1 (.seq (.q [(97, (.ite (.op (.eqa true [1, 1, 1, 1, 1, 1, 1, 1, 2]) [(.op (.ld 9 true) [(.op (.ix 9) [(.sl 0), (.sl 7)])]), (.op (.ld 9 true) [(.op (.ix 9) [(.sl 1), (.sl 7)])])]) (.ite (.ite (.ite (.ite (.ite (.op (.bin .neq) [(.op (.ld 1 false) [(.op (.fa 0 1) [(.op (.ix 9) [(.sl 0), (.sl 7)])])]), (.sl 2)]) (.k (.b true)) (.op (.bin .neq) [(.op (.ld 1 false) [(.op (.fa 0 1) [(.op (.ix 9) [(.sl 1), (.sl 7)])])]), (.sl 2)])) (.k (.b true)) (.op (.bin .neq) [(.op (.ld 1 false) [(.op (.fa 2 1) [(.op (.ix 9) [(.sl 0), (.sl 7)])])]), (.op (.ld 1 false) [(.op (.fa 2 1) [(.op (.ix 9) [(.sl 1), (.sl 7)])])])])) (.k (.b true)) (.op (.bin .neq) [(.op (.ld 1 false) [(.op (.fa 8 1) [(.op (.ix 9) [(.sl 0), (.sl 7)])])]), (.op (.ld 1 false) [(.op (.fa 8 1) [(.op (.ix 9) [(.sl 1), (.sl 7)])])])])) (.k (.b true)) (.op (.bin .neq) [(.op (.ld 1 false) [(.op (.fa 1 1) [(.op (.ix 9) [(.sl 0), (.sl 7)])])]), (.op (.ld 1 false) [(.op (.fa 1 1) [(.op (.ix 9) [(.sl 1), (.sl 7)])])])])) (.k (.b true)) (.op (.bin .neq) [(.op (.ld 1 false) [(.op (.fa 3 1) [(.op (.ix 9) [(.sl 0), (.sl 7)])])]), (.op (.ld 1 false) [(.op (.fa 3 1) [(.op (.ix 9) [(.sl 1), (.sl 7)])])])])) (.k (.b false))))])
 (.cond (.sl 97) (.seq (.q [(6, (.k (.b false)))])
 (.ret [6])) .skip)))
 (.q [(7, (.op (.bin .add) [(.sl 7), (.k (.i .i64 1))]))])))
def code26 : FCode := ⟨3, [.tmp 6],
 (.seq (.q [(6, (.k (.b false)))])
 (.seq (.seq (.q [(12, (.op (.bin .neq) [(.op .len [(.sl 0)]), (.op .len [(.sl 1)])]))])
 (.cond (.sl 12) (.seq (.q [(6, (.k (.b false)))])
 (.ret [6])) .skip))
 (.seq (.seq (.q [(7, (.k (.i .i64 0)))])
 (.blk 0 (.loop [0, 1, 2, 7] body26_1)))
 (.seq (.q [(6, (.k (.b true)))])
 (.ret [6])))))⟩
theorem comp26 : compile Tryd.prog Tryd.f26 = some code26 := by kernel_rfl
theorem okf26 : okFn Tryd.prog 26 = true := by kernel_rfl
-- 27: corebank/collect.amount
def code27 : FCode := ⟨1, [.tmp 2],
 (.seq (.q [(2, (.k (.b false)))])
 (.seq (.q [(2, (.ite (.op (.bin .geq) [(.sl 0), (.k (.i .i64 1))]) (.op (.bin .leq) [(.sl 0), (.k (.i .i64 1000000000000))]) (.k (.b false))))])
 (.ret [2])))⟩
theorem comp27 : compile Tryd.prog Tryd.f27 = some code27 := by kernel_rfl
theorem okf27 : okFn Tryd.prog 27 = true := by kernel_rfl
-- 28: corebank/date.Valid
def code28 : FCode := ⟨1, [.tmp 2],
 (.seq (.q [(2, (.k (.b false)))])
 (.seq (.q [(2, (.ite (.op (.bin .geq) [(.sl 0), (.k (.i .i64 0))]) (.op (.bin .leq) [(.sl 0), (.k (.i .i64 73048))]) (.k (.b false))))])
 (.ret [2])))⟩
theorem comp28 : compile Tryd.prog Tryd.f28 = some code28 := by kernel_rfl
theorem okf28 : okFn Tryd.prog 28 = true := by kernel_rfl
-- 29: corebank/collect.key
def body29_1 : C :=
 (.seq (.q [(7, (.op (.bin .lss) [(.sl 6), (.sl 5)]))])
 (.seq (.cond (.sl 7) .skip (.exit 0 [0]))
 (.seq (.blk 1 (.seq (.q [(3, (.sl 6))])
 (.seq (.q [(18, (.ite (.op (.bin .lss) [(.op .idx [(.sl 0), (.sl 3)]), (.k (.i .u8 33))]) (.k (.b true)) (.op (.bin .gtr) [(.op .idx [(.sl 0), (.sl 3)]), (.k (.i .u8 126))])))])
 (.cond (.sl 18) (.seq (.q [(2, (.k (.b false)))])
 (.ret [2])) .skip))))
 (.q [(6, (.op (.bin .add) [(.sl 6), (.k (.i .i64 1))]))]))))
def code29 : FCode := ⟨1, [.tmp 2],
 (.seq (.q [(2, (.k (.b false)))])
 (.seq (.seq (.q [(5, (.op .slen [(.sl 0)])), (6, (.k (.i .i64 0)))])
 (.blk 0 (.loop [0, 5, 6] body29_1)))
 (.seq (.q [(2, (.ite (.op (.bin .geq) [(.op .slen [(.sl 0)]), (.k (.i .i64 1))]) (.op (.bin .leq) [(.op .slen [(.sl 0)]), (.k (.i .i64 48))]) (.k (.b false))))])
 (.ret [2]))))⟩
theorem comp29 : compile Tryd.prog Tryd.f29 = some code29 := by kernel_rfl
theorem okf29 : okFn Tryd.prog 29 = true := by kernel_rfl
-- 30: corebank/collect.fits
def code30 : FCode := ⟨1, [.tmp 2],
 (.seq (.s [.box 1 (.t 0), .as 2 (.c (.b false))] [])
 (.seq (.seq (.q [(4, (.op (.ld 1 false) [(.op (.fa 7 1) [(.sl 1)])]))])
 (.blk 0 (.seq (.q [(5, (.op (.bin .eql) [(.sl 4), (.k (.i .i64 1))]))])
 (.cond (.sl 5) (.seq (.q [(2, (.op (.call false 34) [(.op (.ld 9 true) [(.sl 1)])]))])
 (.ret [2])) (.seq (.q [(9, (.op (.bin .eql) [(.sl 4), (.k (.i .i64 2))]))])
 (.cond (.sl 9) (.seq (.q [(2, (.ite (.ite (.op (.call false 28) [(.op (.ld 1 false) [(.op (.fa 4 1) [(.sl 1)])])]) (.op (.bin .eql) [(.op (.ld 1 false) [(.op (.fa 5 1) [(.sl 1)])]), (.k (.i .i64 0))]) (.k (.b false))) (.op (.bin .eql) [(.op (.ld 1 false) [(.op (.fa 6 1) [(.sl 1)])]), (.k (.i .i64 0))]) (.k (.b false))))])
 (.ret [2])) (.seq (.q [(24, (.op (.bin .eql) [(.sl 4), (.k (.i .i64 3))]))])
 (.cond (.sl 24) (.seq (.q [(2, (.ite (.ite (.ite (.ite (.ite (.op (.call true 28) [(.op (.ld 1 false) [(.op (.fa 4 1) [(.sl 1)])])]) (.op (.call true 28) [(.op (.ld 1 false) [(.op (.fa 5 1) [(.sl 1)])])]) (.k (.b false))) (.op (.bin .geq) [(.op (.ld 1 false) [(.op (.fa 6 1) [(.sl 1)])]), (.k (.i .i64 1))]) (.k (.b false))) (.op (.bin .leq) [(.op (.ld 1 false) [(.op (.fa 6 1) [(.sl 1)])]), (.k (.i .i64 4))]) (.k (.b false))) (.op (.bin .geq) [(.op (.ld 1 false) [(.op (.fa 5 1) [(.sl 1)])]), (.op (.ld 1 false) [(.op (.fa 4 1) [(.sl 1)])])]) (.k (.b false))) (.op (.bin .leq) [(.op (.ld 1 false) [(.op (.fa 5 1) [(.sl 1)])]), (.op (.bin .add) [(.op (.ld 1 false) [(.op (.fa 4 1) [(.sl 1)])]), (.op (.call true 20) [(.op (.ld 1 false) [(.op (.fa 6 1) [(.sl 1)])])])])]) (.k (.b false))))])
 (.ret [2])) (.seq (.q [(62, (.op (.bin .eql) [(.sl 4), (.k (.i .i64 4))]))])
 (.cond (.sl 62) (.seq (.q [(2, (.ite (.ite (.ite (.op (.bin .eql) [(.op (.ld 1 false) [(.op (.fa 4 1) [(.sl 1)])]), (.k (.i .i64 0))]) (.op (.bin .eql) [(.op (.ld 1 false) [(.op (.fa 5 1) [(.sl 1)])]), (.k (.i .i64 0))]) (.k (.b false))) (.op (.bin .geq) [(.op (.ld 1 false) [(.op (.fa 6 1) [(.sl 1)])]), (.k (.i .i64 1))]) (.k (.b false))) (.op (.bin .leq) [(.op (.ld 1 false) [(.op (.fa 6 1) [(.sl 1)])]), (.k (.i .i64 3))]) (.k (.b false))))])
 (.ret [2])) .skip))))))))))
 (.seq (.q [(2, (.k (.b false)))])
 (.ret [2]))))⟩
theorem comp30 : compile Tryd.prog Tryd.f30 = some code30 := by kernel_rfl
theorem okf30 : okFn Tryd.prog 30 = true := by kernel_rfl
-- 31: corebank/corebankref42.shaped
def code31 : FCode := ⟨1, [.tmp 2],
 (.seq (.s [.box 1 (.t 0), .as 2 (.c (.b false))] [])
 (.seq (.q [(2, (.ite (.ite (.ite (.ite (.op (.bin .geq) [(.op (.ld 1 false) [(.op (.fa 0 1) [(.sl 1)])]), (.k (.i .i64 1))]) (.op (.bin .geq) [(.op (.ld 1 false) [(.op (.fa 2 1) [(.sl 1)])]), (.k (.i .i64 1))]) (.k (.b false))) (.op (.call false 44) [(.op (.ld 1 false) [(.op (.fa 2 1) [(.sl 1)])])]) (.k (.b false))) (.op (.call false 40) [(.op (.ld 1 false) [(.op (.fa 3 1) [(.sl 1)])])]) (.k (.b false))) (.op (.call false 45) [(.op (.ld 1 false) [(.op (.fa 8 1) [(.sl 1)])])]) (.k (.b false))))])
 (.ret [2])))⟩
theorem comp31 : compile Tryd.prog Tryd.f31 = some code31 := by kernel_rfl
theorem okf31 : okFn Tryd.prog 31 = true := by kernel_rfl
-- 32: corebank/corebankref42.fits
def code32 : FCode := ⟨1, [.tmp 2],
 (.seq (.s [.box 1 (.t 0), .as 2 (.c (.b false))] [])
 (.seq (.seq (.q [(4, (.op (.ld 1 false) [(.op (.fa 7 1) [(.sl 1)])]))])
 (.blk 0 (.seq (.q [(5, (.op (.bin .eql) [(.sl 4), (.k (.i .i64 1))]))])
 (.cond (.sl 5) (.seq (.q [(2, (.ite (.ite (.op (.bin .eql) [(.op (.ld 1 false) [(.op (.fa 4 1) [(.sl 1)])]), (.k (.i .i64 0))]) (.op (.bin .eql) [(.op (.ld 1 false) [(.op (.fa 5 1) [(.sl 1)])]), (.k (.i .i64 0))]) (.k (.b false))) (.op (.bin .eql) [(.op (.ld 1 false) [(.op (.fa 6 1) [(.sl 1)])]), (.k (.i .i64 0))]) (.k (.b false))))])
 (.ret [2])) (.seq (.q [(20, (.op (.bin .eql) [(.sl 4), (.k (.i .i64 2))]))])
 (.cond (.sl 20) (.seq (.q [(2, (.ite (.ite (.op (.call false 40) [(.op (.ld 1 false) [(.op (.fa 4 1) [(.sl 1)])])]) (.op (.bin .eql) [(.op (.ld 1 false) [(.op (.fa 5 1) [(.sl 1)])]), (.k (.i .i64 0))]) (.k (.b false))) (.op (.bin .eql) [(.op (.ld 1 false) [(.op (.fa 6 1) [(.sl 1)])]), (.k (.i .i64 0))]) (.k (.b false))))])
 (.ret [2])) (.seq (.q [(35, (.op (.bin .eql) [(.sl 4), (.k (.i .i64 3))]))])
 (.cond (.sl 35) (.seq (.q [(2, (.ite (.ite (.ite (.ite (.ite (.op (.call true 40) [(.op (.ld 1 false) [(.op (.fa 4 1) [(.sl 1)])])]) (.op (.call true 40) [(.op (.ld 1 false) [(.op (.fa 5 1) [(.sl 1)])])]) (.k (.b false))) (.op (.bin .geq) [(.op (.ld 1 false) [(.op (.fa 6 1) [(.sl 1)])]), (.k (.i .i64 1))]) (.k (.b false))) (.op (.bin .leq) [(.op (.ld 1 false) [(.op (.fa 6 1) [(.sl 1)])]), (.k (.i .i64 4))]) (.k (.b false))) (.op (.bin .geq) [(.op (.ld 1 false) [(.op (.fa 5 1) [(.sl 1)])]), (.op (.ld 1 false) [(.op (.fa 4 1) [(.sl 1)])])]) (.k (.b false))) (.op (.bin .leq) [(.op (.ld 1 false) [(.op (.fa 5 1) [(.sl 1)])]), (.op (.bin .add) [(.op (.ld 1 false) [(.op (.fa 4 1) [(.sl 1)])]), (.op (.call true 21) [(.op (.ld 1 false) [(.op (.fa 6 1) [(.sl 1)])])])])]) (.k (.b false))))])
 (.ret [2])) (.seq (.q [(73, (.op (.bin .eql) [(.sl 4), (.k (.i .i64 4))]))])
 (.cond (.sl 73) (.seq (.q [(2, (.ite (.ite (.ite (.op (.bin .eql) [(.op (.ld 1 false) [(.op (.fa 4 1) [(.sl 1)])]), (.k (.i .i64 0))]) (.op (.bin .eql) [(.op (.ld 1 false) [(.op (.fa 5 1) [(.sl 1)])]), (.k (.i .i64 0))]) (.k (.b false))) (.op (.bin .geq) [(.op (.ld 1 false) [(.op (.fa 6 1) [(.sl 1)])]), (.k (.i .i64 1))]) (.k (.b false))) (.op (.bin .leq) [(.op (.ld 1 false) [(.op (.fa 6 1) [(.sl 1)])]), (.k (.i .i64 3))]) (.k (.b false))))])
 (.ret [2])) .skip))))))))))
 (.seq (.q [(2, (.k (.b false)))])
 (.ret [2]))))⟩
theorem comp32 : compile Tryd.prog Tryd.f32 = some code32 := by kernel_rfl
theorem okf32 : okFn Tryd.prog 32 = true := by kernel_rfl
-- 33: corebank/corebankref42.known
def body33_1 : C :=
 (.seq (.seq (.q [(9, (.op (.bin .lss) [(.sl 5), (.op .len [(.sl 0)])]))])
 (.cond (.sl 9) .skip (.exit 0 [])))
 (.seq (.blk 1 (.seq (.q [(18, (.op (.bin .eql) [(.op (.ld 1 false) [(.op (.fa 8 1) [(.op (.ix 9) [(.sl 0), (.sl 5)])])]), (.sl 1)]))])
 (.cond (.sl 18) (.seq (.q [(4, (.k (.b true)))])
 (.ret [4])) .skip)))
 (.q [(5, (.op (.bin .add) [(.sl 5), (.k (.i .i64 1))]))])))
def code33 : FCode := ⟨2, [.tmp 4],
 (.seq (.q [(4, (.k (.b false)))])
 (.seq (.seq (.q [(5, (.k (.i .i64 0)))])
 (.blk 0 (.loop [0, 1, 5] body33_1)))
 (.seq (.q [(4, (.k (.b false)))])
 (.ret [4]))))⟩
theorem comp33 : compile Tryd.prog Tryd.f33 = some code33 := by kernel_rfl
theorem okf33 : okFn Tryd.prog 33 = true := by kernel_rfl
-- 34: corebank/collect.presented
def code34 : FCode := ⟨1, [.tmp 2],
 (.seq (.s [.box 1 (.t 0), .as 2 (.c (.b false))] [])
 (.seq (.q [(2, (.ite (.ite (.ite (.op (.bin .eql) [(.op (.ld 1 false) [(.op (.fa 7 1) [(.sl 1)])]), (.k (.i .i64 1))]) (.op (.bin .eql) [(.op (.ld 1 false) [(.op (.fa 4 1) [(.sl 1)])]), (.k (.i .i64 0))]) (.k (.b false))) (.op (.bin .eql) [(.op (.ld 1 false) [(.op (.fa 5 1) [(.sl 1)])]), (.k (.i .i64 0))]) (.k (.b false))) (.op (.bin .eql) [(.op (.ld 1 false) [(.op (.fa 6 1) [(.sl 1)])]), (.k (.i .i64 0))]) (.k (.b false))))])
 (.ret [2])))⟩
theorem comp34 : compile Tryd.prog Tryd.f34 = some code34 := by kernel_rfl
theorem okf34 : okFn Tryd.prog 34 = true := by kernel_rfl
-- 35: slices.ContainsFunc[[]corebank/api.Debit,corebank/api.Debit]
def code35 : FCode := ⟨2, [.tmp 4],
 (.seq (.q [(4, (.k (.b false)))])
 (.seq (.q [(4, (.op (.bin .geq) [(.op (.call false 46) [(.sl 0), (.sl 1)]), (.k (.i .i64 0))]))])
 (.ret [4])))⟩
theorem comp35 : compile Tryd.prog Tryd.f35 = some code35 := by kernel_rfl
theorem okf35 : okFn Tryd.prog 35 = true := by kernel_rfl
-- 36: corebank/collect.Present$1
def code36 : FCode := ⟨2, [.tmp 3],
 (.seq (.s [.box 2 (.t 0), .as 3 (.c (.b false))] [])
 (.seq (.q [(3, (.op (.bin .geq) [(.op (.ld 1 false) [(.op (.fa 0 1) [(.sl 2)])]), (.op (.ld 1 false) [(.op (.fa 0 1) [(.sl 1)])])]))])
 (.ret [3])))⟩
theorem comp36 : compile Tryd.prog Tryd.f36 = some code36 := by kernel_rfl
theorem okf36 : okFn Tryd.prog 36 = true := by kernel_rfl
-- 37: corebank/collect.Present$2
def code37 : FCode := ⟨2, [.tmp 3],
 (.seq (.s [.box 2 (.t 0), .as 3 (.c (.b false))] [])
 (.seq (.q [(3, (.op (.bin .eql) [(.op (.ld 1 false) [(.op (.fa 8 1) [(.sl 2)])]), (.op (.ld 1 false) [(.op (.fa 8 1) [(.sl 1)])])]))])
 (.ret [3])))⟩
theorem comp37 : compile Tryd.prog Tryd.f37 = some code37 := by kernel_rfl
theorem okf37 : okFn Tryd.prog 37 = true := by kernel_rfl
-- 38: corebank/mandate.Allows
def code38 : FCode := ⟨4, [.tmp 8],
 (.seq (.q [(8, (.k (.i .i64 0)))])
 (.seq (.q [(9, (.op (.ext 0) [(.op (.call false 47) [(.sl 0), (.sl 1)])])), (10, (.op (.ext 1) [(.op (.call false 47) [(.sl 0), (.sl 1)])]))])
 (.seq (.seq (.q [(19, (.op (.un .not) [(.sl 10)]))])
 (.cond (.sl 19) (.seq (.q [(8, (.k (.i .i64 11)))])
 (.ret [8])) .skip))
 (.seq (.seq (.s [.mv 20 (.t 0), .mv 21 (.t 9), .ix 22 7 (.t 20) (.t 21), .q 23 (.ld 7 true) [(.t 22)], .alo 11 [(.i .i64 0), (.i .i64 0), (.i .i64 0), (.i .i64 0), (.i .i64 0), (.i .i64 0), (.s [])], .sto 7 (.t 11) (.t 23)] [20, 21, 22, 23])
 (.blk 0 (.seq (.q [(24, (.ite (.ite (.op (.bin .neq) [(.op (.ld 1 false) [(.op (.fa 5 1) [(.sl 11)])]), (.k (.i .i64 0))]) (.op (.bin .leq) [(.op (.ld 1 false) [(.op (.fa 5 1) [(.sl 11)])]), (.sl 3)]) (.k (.b false))) (.k (.b true)) (.op (.bin .gtr) [(.op (.ld 1 false) [(.op (.fa 3 1) [(.sl 11)])]), (.sl 3)])))])
 (.cond (.sl 24) (.seq (.q [(8, (.k (.i .i64 17)))])
 (.ret [8])) (.seq (.q [(40, (.op (.call false 48) [(.op (.ld 7 true) [(.sl 11)]), (.sl 3)]))])
 (.cond (.sl 40) (.seq (.q [(8, (.k (.i .i64 23)))])
 (.ret [8])) (.seq (.q [(44, (.ite (.op (.bin .neq) [(.op (.ld 1 false) [(.op (.fa 2 1) [(.sl 11)])]), (.k (.i .i64 0))]) (.op (.bin .gtr) [(.sl 2), (.op (.ld 1 false) [(.op (.fa 2 1) [(.sl 11)])])]) (.k (.b false))))])
 (.cond (.sl 44) (.seq (.q [(8, (.k (.i .i64 18)))])
 (.ret [8])) .skip))))))))
 (.seq (.q [(8, (.k (.i .i64 0)))])
 (.ret [8]))))))⟩
theorem comp38 : compile Tryd.prog Tryd.f38 = some code38 := by kernel_rfl
theorem okf38 : okFn Tryd.prog 38 = true := by kernel_rfl
-- 39: slices.Clone[[]corebank/api.Debit,corebank/api.Debit] NOT COMPILED
-- 40: corebank/corebankref04.Valid
def code40 : FCode := ⟨1, [.tmp 2],
 (.seq (.q [(2, (.k (.b false)))])
 (.seq (.q [(2, (.ite (.op (.bin .geq) [(.sl 0), (.k (.i .i64 0))]) (.op (.bin .leq) [(.sl 0), (.k (.i .i64 73048))]) (.k (.b false))))])
 (.ret [2])))⟩
theorem comp40 : compile Tryd.prog Tryd.f40 = some code40 := by kernel_rfl
theorem okf40 : okFn Tryd.prog 40 = true := by kernel_rfl
-- 41: corebank/corebankref41.Allows
def code41 : FCode := ⟨4, [.tmp 8],
 (.seq (.q [(8, (.k (.i .i64 0)))])
 (.seq (.q [(9, (.op (.call false 49) [(.sl 0), (.sl 1)]))])
 (.seq (.seq (.q [(15, (.op (.bin .lss) [(.sl 9), (.k (.i .i64 0))]))])
 (.cond (.sl 15) (.seq (.q [(8, (.k (.i .i64 11)))])
 (.ret [8])) .skip))
 (.seq (.s [.mv 16 (.t 0), .mv 17 (.t 9), .ix 18 7 (.t 16) (.t 17), .q 19 (.ld 7 true) [(.t 18)], .alo 10 [(.i .i64 0), (.i .i64 0), (.i .i64 0), (.i .i64 0), (.i .i64 0), (.i .i64 0), (.s [])], .sto 7 (.t 10) (.t 19)] [16, 17, 18, 19])
 (.seq (.seq (.q [(34, (.ite (.ite (.op (.bin .neq) [(.op (.ld 1 false) [(.op (.fa 5 1) [(.sl 10)])]), (.k (.i .i64 0))]) (.op (.bin .leq) [(.op (.ld 1 false) [(.op (.fa 5 1) [(.sl 10)])]), (.sl 3)]) (.k (.b false))) (.k (.b true)) (.op (.bin .gtr) [(.op (.ld 1 false) [(.op (.fa 3 1) [(.sl 10)])]), (.sl 3)])))])
 (.cond (.sl 34) (.seq (.q [(8, (.k (.i .i64 17)))])
 (.ret [8])) .skip))
 (.seq (.seq (.q [(37, (.op (.call false 50) [(.op (.ld 7 true) [(.sl 10)]), (.sl 3)]))])
 (.cond (.sl 37) (.seq (.q [(8, (.k (.i .i64 23)))])
 (.ret [8])) .skip))
 (.seq (.seq (.q [(46, (.ite (.op (.bin .neq) [(.op (.ld 1 false) [(.op (.fa 2 1) [(.sl 10)])]), (.k (.i .i64 0))]) (.op (.bin .gtr) [(.sl 2), (.op (.ld 1 false) [(.op (.fa 2 1) [(.sl 10)])])]) (.k (.b false))))])
 (.cond (.sl 46) (.seq (.q [(8, (.k (.i .i64 18)))])
 (.ret [8])) .skip))
 (.seq (.q [(8, (.k (.i .i64 0)))])
 (.ret [8])))))))))⟩
theorem comp41 : compile Tryd.prog Tryd.f41 = some code41 := by kernel_rfl
theorem okf41 : okFn Tryd.prog 41 = true := by kernel_rfl
-- 42: corebank/collect.index
def code42 : FCode := ⟨2, [.tmp 4],
 (.seq (.s [.box 3 (.t 1), .as 4 (.c (.i .i64 0))] [])
 (.seq (.s [.mv 5 (.t 0), .mkf 6 (.func 51) 0 [(.t 3)], .call (some 7) 46 [(.t 5), (.t 6)], .as 4 (.t 7)] [5, 6, 7])
 (.ret [4])))⟩
theorem comp42 : compile Tryd.prog Tryd.f42 = some code42 := by kernel_rfl
theorem okf42 : okFn Tryd.prog 42 = true := by kernel_rfl
-- 43: corebank/corebankref42.index
def body43_1 : C :=
 (.seq (.seq (.q [(9, (.op (.bin .lss) [(.sl 5), (.op .len [(.sl 0)])]))])
 (.cond (.sl 9) .skip (.exit 0 [])))
 (.seq (.blk 1 (.seq (.q [(18, (.op (.bin .eql) [(.op (.ld 1 false) [(.op (.fa 0 1) [(.op (.ix 9) [(.sl 0), (.sl 5)])])]), (.sl 1)]))])
 (.cond (.sl 18) (.seq (.q [(4, (.sl 5))])
 (.ret [4])) .skip)))
 (.q [(5, (.op (.bin .add) [(.sl 5), (.k (.i .i64 1))]))])))
def code43 : FCode := ⟨2, [.tmp 4],
 (.seq (.q [(4, (.k (.i .i64 0)))])
 (.seq (.seq (.q [(5, (.k (.i .i64 0)))])
 (.blk 0 (.loop [0, 1, 5] body43_1)))
 (.seq (.q [(4, (.k (.i .i64 (-1))))])
 (.ret [4]))))⟩
theorem comp43 : compile Tryd.prog Tryd.f43 = some code43 := by kernel_rfl
theorem okf43 : okFn Tryd.prog 43 = true := by kernel_rfl
-- 44: corebank/corebankref03.Valid
def code44 : FCode := ⟨1, [.tmp 2],
 (.seq (.q [(2, (.k (.b false)))])
 (.seq (.q [(2, (.ite (.op (.bin .geq) [(.sl 0), (.k (.i .i64 (-1000000000000)))]) (.op (.bin .leq) [(.sl 0), (.k (.i .i64 1000000000000))]) (.k (.b false))))])
 (.ret [2])))⟩
theorem comp44 : compile Tryd.prog Tryd.f44 = some code44 := by kernel_rfl
theorem okf44 : okFn Tryd.prog 44 = true := by kernel_rfl
-- 45: corebank/corebankref42.Key
def body45_1 : C :=
 (.seq (.seq (.q [(14, (.op (.bin .lss) [(.sl 3), (.op .slen [(.sl 0)])]))])
 (.cond (.sl 14) .skip (.exit 0 [])))
 (.seq (.blk 1 (.seq (.q [(26, (.ite (.op (.bin .lss) [(.op .idx [(.sl 0), (.sl 3)]), (.k (.i .u8 33))]) (.k (.b true)) (.op (.bin .gtr) [(.op .idx [(.sl 0), (.sl 3)]), (.k (.i .u8 126))])))])
 (.cond (.sl 26) (.seq (.q [(2, (.k (.b false)))])
 (.ret [2])) .skip)))
 (.q [(3, (.op (.bin .add) [(.sl 3), (.k (.i .i64 1))]))])))
def code45 : FCode := ⟨1, [.tmp 2],
 (.seq (.q [(2, (.k (.b false)))])
 (.seq (.seq (.q [(10, (.ite (.op (.bin .eql) [(.sl 0), (.k (.s []))]) (.k (.b true)) (.op (.bin .gtr) [(.op .slen [(.sl 0)]), (.k (.i .i64 48))])))])
 (.cond (.sl 10) (.seq (.q [(2, (.k (.b false)))])
 (.ret [2])) .skip))
 (.seq (.seq (.q [(3, (.k (.i .i64 0)))])
 (.blk 0 (.loop [0, 3] body45_1)))
 (.seq (.q [(2, (.k (.b true)))])
 (.ret [2])))))⟩
theorem comp45 : compile Tryd.prog Tryd.f45 = some code45 := by kernel_rfl
theorem okf45 : okFn Tryd.prog 45 = true := by kernel_rfl
-- 46: slices.IndexFunc[[]corebank/api.Debit,corebank/api.Debit]
def body46_1 : C :=
 (.seq (.q [(9, (.op (.bin .lss) [(.sl 8), (.sl 7)]))])
 (.seq (.cond (.sl 9) .skip (.exit 0 []))
 (.seq (.blk 1 (.seq (.q [(5, (.sl 8))])
 (.seq (.q [(16, (.op (.callv false) [(.sl 1), (.op (.ld 9 true) [(.op (.ix 9) [(.sl 0), (.sl 5)])])]))])
 (.cond (.sl 16) (.seq (.q [(4, (.sl 5))])
 (.ret [4])) .skip))))
 (.q [(8, (.op (.bin .add) [(.sl 8), (.k (.i .i64 1))]))]))))
def code46 : FCode := ⟨2, [.tmp 4],
 (.seq (.q [(4, (.k (.i .i64 0)))])
 (.seq (.seq (.q [(7, (.op .len [(.sl 0)])), (8, (.k (.i .i64 0)))])
 (.blk 0 (.loop [0, 1, 7, 8] body46_1)))
 (.seq (.q [(4, (.k (.i .i64 (-1))))])
 (.ret [4]))))⟩
theorem comp46 : compile Tryd.prog Tryd.f46 = some code46 := by kernel_rfl
theorem okf46 : okFn Tryd.prog 46 = true := by kernel_rfl
-- 47: corebank/mandate.find
def code47 : FCode := ⟨2, [.tmp 4, .tmp 5],
 (.seq (.s [.box 3 (.t 1), .as 4 (.c (.i .i64 0)), .as 5 (.c (.b false))] [])
 (.seq (.s [.mv 6 (.t 0), .mkf 7 (.func 53) 0 [(.t 3)], .call (some 8) 52 [(.t 6), (.t 7)], .ext 9 0 8, .ext 10 1 8, .as 4 (.t 9), .as 5 (.t 10)] [6, 7, 8, 9, 10])
 (.ret [4, 5])))⟩
theorem comp47 : compile Tryd.prog Tryd.f47 = some code47 := by kernel_rfl
theorem okf47 : okFn Tryd.prog 47 = true := by kernel_rfl
-- 48: corebank/mandate.Expired
def code48 : FCode := ⟨2, [.tmp 4],
 (.seq (.s [.box 2 (.t 0), .as 4 (.c (.b false))] [])
 (.seq (.q [(5, (.op (.ld 1 false) [(.op (.fa 4 1) [(.sl 2)])]))])
 (.seq (.seq (.q [(9, (.op (.bin .eql) [(.sl 5), (.k (.i .i64 0))]))])
 (.cond (.sl 9) (.q [(5, (.op (.ld 1 false) [(.op (.fa 3 1) [(.sl 2)])]))]) .skip))
 (.seq (.q [(4, (.op (.call false 54) [(.sl 1), (.sl 5), (.k (.i .i64 1096))]))])
 (.ret [4])))))⟩
theorem comp48 : compile Tryd.prog Tryd.f48 = some code48 := by kernel_rfl
theorem okf48 : okFn Tryd.prog 48 = true := by kernel_rfl
-- 49: corebank/corebankref41.Place
def body49_1 : C :=
 (.seq (.seq (.q [(9, (.op (.bin .lss) [(.sl 5), (.op .len [(.sl 0)])]))])
 (.cond (.sl 9) .skip (.exit 0 [])))
 (.seq (.blk 1 (.seq (.q [(18, (.op (.bin .eql) [(.op (.ld 1 false) [(.op (.fa 0 1) [(.op (.ix 7) [(.sl 0), (.sl 5)])])]), (.sl 1)]))])
 (.cond (.sl 18) (.seq (.q [(4, (.sl 5))])
 (.ret [4])) .skip)))
 (.q [(5, (.op (.bin .add) [(.sl 5), (.k (.i .i64 1))]))])))
def code49 : FCode := ⟨2, [.tmp 4],
 (.seq (.q [(4, (.k (.i .i64 0)))])
 (.seq (.seq (.q [(5, (.k (.i .i64 0)))])
 (.blk 0 (.loop [0, 1, 5] body49_1)))
 (.seq (.q [(4, (.k (.i .i64 (-1))))])
 (.ret [4]))))⟩
theorem comp49 : compile Tryd.prog Tryd.f49 = some code49 := by kernel_rfl
theorem okf49 : okFn Tryd.prog 49 = true := by kernel_rfl
-- 50: corebank/corebankref41.Expired
def code50 : FCode := ⟨2, [.tmp 4],
 (.seq (.s [.box 2 (.t 0), .as 4 (.c (.b false))] [])
 (.seq (.q [(5, (.op (.ld 1 false) [(.op (.fa 4 1) [(.sl 2)])]))])
 (.seq (.seq (.q [(9, (.op (.bin .eql) [(.sl 5), (.k (.i .i64 0))]))])
 (.cond (.sl 9) (.q [(5, (.op (.ld 1 false) [(.op (.fa 3 1) [(.sl 2)])]))]) .skip))
 (.seq (.q [(4, (.ite (.op (.bin .gtr) [(.sl 1), (.sl 5)]) (.op (.bin .gtr) [(.op (.bin .sub) [(.op (.cnv .u64) [(.sl 1)]), (.op (.cnv .u64) [(.sl 5)])]), (.k (.i .u64 1096))]) (.k (.b false))))])
 (.ret [4])))))⟩
theorem comp50 : compile Tryd.prog Tryd.f50 = some code50 := by kernel_rfl
theorem okf50 : okFn Tryd.prog 50 = true := by kernel_rfl
-- 51: corebank/collect.index$1
def code51 : FCode := ⟨2, [.tmp 3],
 (.seq (.s [.box 2 (.t 0), .as 3 (.c (.b false))] [])
 (.seq (.q [(3, (.op (.bin .eql) [(.op (.ld 1 false) [(.op (.fa 0 1) [(.sl 2)])]), (.op (.ld 1 false) [(.sl 1)])]))])
 (.ret [3])))⟩
theorem comp51 : compile Tryd.prog Tryd.f51 = some code51 := by kernel_rfl
theorem okf51 : okFn Tryd.prog 51 = true := by kernel_rfl
-- 52: corebank/mandate.first[corebank/api.Mandate]
def body52_1 : C :=
 (.seq (.q [(11, (.op (.bin .lss) [(.sl 10), (.sl 9)]))])
 (.seq (.cond (.sl 11) .skip (.exit 0 []))
 (.seq (.blk 1 (.seq (.s [.mv 12 (.t 10), .ix 13 7 (.t 8) (.t 10), .q 14 (.ld 7 true) [(.t 13)], .alo 7 [(.i .i64 0), (.i .i64 0), (.i .i64 0), (.i .i64 0), (.i .i64 0), (.i .i64 0), (.s [])], .as 6 (.t 12), .sto 7 (.t 7) (.t 14)] [12, 13, 14])
 (.seq (.q [(17, (.op (.callv false) [(.sl 1), (.op (.ld 7 true) [(.sl 7)])]))])
 (.cond (.sl 17) (.seq (.q [(4, (.sl 6)), (5, (.k (.b true)))])
 (.ret [4, 5])) .skip))))
 (.q [(10, (.op (.bin .add) [(.sl 10), (.k (.i .i64 1))]))]))))
def code52 : FCode := ⟨2, [.tmp 4, .tmp 5],
 (.seq (.q [(4, (.k (.i .i64 0))), (5, (.k (.b false)))])
 (.seq (.seq (.s [.mv 8 (.t 0), .q 9 .len [(.t 8)], .mv 10 (.c (.i .i64 0))] [])
 (.blk 0 (.loop [1, 8, 9, 10] body52_1)))
 (.seq (.q [(4, (.k (.i .i64 0))), (5, (.k (.b false)))])
 (.ret [4, 5]))))⟩
theorem comp52 : compile Tryd.prog Tryd.f52 = some code52 := by kernel_rfl
theorem okf52 : okFn Tryd.prog 52 = true := by kernel_rfl
-- 53: corebank/mandate.find$1
def code53 : FCode := ⟨2, [.tmp 3],
 (.seq (.s [.box 2 (.t 0), .as 3 (.c (.b false))] [])
 (.seq (.q [(3, (.op (.bin .eql) [(.op (.ld 1 false) [(.op (.fa 0 1) [(.sl 2)])]), (.op (.ld 1 false) [(.sl 1)])]))])
 (.ret [3])))⟩
theorem comp53 : compile Tryd.prog Tryd.f53 = some code53 := by kernel_rfl
theorem okf53 : okFn Tryd.prog 53 = true := by kernel_rfl
-- 54: corebank/mandate.more
def code54 : FCode := ⟨3, [.tmp 6],
 (.seq (.q [(6, (.k (.b false)))])
 (.seq (.q [(6, (.ite (.op (.bin .gtr) [(.sl 0), (.sl 1)]) (.op (.bin .gtr) [(.op (.bin .sub) [(.op (.cnv .u64) [(.sl 0)]), (.op (.cnv .u64) [(.sl 1)])]), (.op (.cnv .u64) [(.sl 2)])]) (.k (.b false))))])
 (.ret [6])))⟩
theorem comp54 : compile Tryd.prog Tryd.f54 = some code54 := by kernel_rfl
theorem okf54 : okFn Tryd.prog 54 = true := by kernel_rfl
-- 74: gosem.cut.vars NOT COMPILED
/-- All of them. -/
def codes : List (Nat × FCode) := [(2, code2), (3, code3), (4, code4), (5, code5), (6, code6), (7, code7), (8, code8), (9, code9), (10, code10), (11, code11), (12, code12), (13, code13), (14, code14), (15, code15), (16, code16), (17, code17), (18, code18), (19, code19), (20, code20), (21, code21), (22, code22), (23, code23), (24, code24), (25, code25), (26, code26), (27, code27), (28, code28), (29, code29), (30, code30), (31, code31), (32, code32), (33, code33), (34, code34), (35, code35), (36, code36), (37, code37), (38, code38), (40, code40), (41, code41), (42, code42), (43, code43), (44, code44), (45, code45), (46, code46), (47, code47), (48, code48), (49, code49), (50, code50), (51, code51), (52, code52), (53, code53), (54, code54)]
def tab : Nat → Option FCode := tabOf codes
theorem codes_ok : ∀ p ∈ codes, ∃ fn, Tryd.prog.funcs[p.1]? = some fn ∧ compile Tryd.prog fn = some p.2 ∧ okFn Tryd.prog p.1 = true := by
  unfold codes
  simp only [List.forall_mem_cons]
  exact ⟨⟨_, Tryd.func2, comp2, okf2⟩, ⟨_, Tryd.func3, comp3, okf3⟩, ⟨_, Tryd.func4, comp4, okf4⟩, ⟨_, Tryd.func5, comp5, okf5⟩, ⟨_, Tryd.func6, comp6, okf6⟩, ⟨_, Tryd.func7, comp7, okf7⟩, ⟨_, Tryd.func8, comp8, okf8⟩, ⟨_, Tryd.func9, comp9, okf9⟩, ⟨_, Tryd.func10, comp10, okf10⟩, ⟨_, Tryd.func11, comp11, okf11⟩, ⟨_, Tryd.func12, comp12, okf12⟩, ⟨_, Tryd.func13, comp13, okf13⟩, ⟨_, Tryd.func14, comp14, okf14⟩, ⟨_, Tryd.func15, comp15, okf15⟩, ⟨_, Tryd.func16, comp16, okf16⟩, ⟨_, Tryd.func17, comp17, okf17⟩, ⟨_, Tryd.func18, comp18, okf18⟩, ⟨_, Tryd.func19, comp19, okf19⟩, ⟨_, Tryd.func20, comp20, okf20⟩, ⟨_, Tryd.func21, comp21, okf21⟩, ⟨_, Tryd.func22, comp22, okf22⟩, ⟨_, Tryd.func23, comp23, okf23⟩, ⟨_, Tryd.func24, comp24, okf24⟩, ⟨_, Tryd.func25, comp25, okf25⟩, ⟨_, Tryd.func26, comp26, okf26⟩, ⟨_, Tryd.func27, comp27, okf27⟩, ⟨_, Tryd.func28, comp28, okf28⟩, ⟨_, Tryd.func29, comp29, okf29⟩, ⟨_, Tryd.func30, comp30, okf30⟩, ⟨_, Tryd.func31, comp31, okf31⟩, ⟨_, Tryd.func32, comp32, okf32⟩, ⟨_, Tryd.func33, comp33, okf33⟩, ⟨_, Tryd.func34, comp34, okf34⟩, ⟨_, Tryd.func35, comp35, okf35⟩, ⟨_, Tryd.func36, comp36, okf36⟩, ⟨_, Tryd.func37, comp37, okf37⟩, ⟨_, Tryd.func38, comp38, okf38⟩, ⟨_, Tryd.func40, comp40, okf40⟩, ⟨_, Tryd.func41, comp41, okf41⟩, ⟨_, Tryd.func42, comp42, okf42⟩, ⟨_, Tryd.func43, comp43, okf43⟩, ⟨_, Tryd.func44, comp44, okf44⟩, ⟨_, Tryd.func45, comp45, okf45⟩, ⟨_, Tryd.func46, comp46, okf46⟩, ⟨_, Tryd.func47, comp47, okf47⟩, ⟨_, Tryd.func48, comp48, okf48⟩, ⟨_, Tryd.func49, comp49, okf49⟩, ⟨_, Tryd.func50, comp50, okf50⟩, ⟨_, Tryd.func51, comp51, okf51⟩, ⟨_, Tryd.func52, comp52, okf52⟩, ⟨_, Tryd.func53, comp53, okf53⟩, ⟨_, Tryd.func54, comp54, okf54⟩, fun _ h => by cases h⟩
end Go.Proofs.YtoahbbpjhdegoaaDoor
