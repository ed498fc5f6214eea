/-
  The code of the functions that the laws reach, as the evaluator runs it: printed by a program of ours off the translation, and held against it by the kernel.
-/
import Derived.Test.YtlmbgmobghmmmaaProg
import Derived.Test.YtlmbgmobghmmmaaVmR
import Derived.Test.YtlmbgmobghmmmaaVmO
import Derived.KernelRfl
namespace Go.Proofs.Ytlmbgmobghmmmaa
open Go.VM
/-- The library's functions that write into a slice of the call's own. -/
instance glob : Glob := ⟨[], [(29, ⟨33, true, false, insRun 33⟩), (31, ⟨9, false, false, sortSRun⟩), (35, ⟨3, false, false, sortRun⟩), (36, ⟨3, true, false, compRun⟩)]⟩
-- 2: gosem.cut.init
def code2 : FCode := ⟨0, [],
 (.s [.call (some 0) 1 []] [0])⟩
theorem comp2 : compile Try.prog Try.f2 = some code2 := by kernel_rfl
theorem okf2 : okFn Try.prog 2 = true := by kernel_rfl
-- 3: corebank/corebanklaw17.CatalogChecks
def code3 : FCode := ⟨1, [.tmp 2],
 (.seq (.q [(2, (.k (.b false)))])
 (.seq (.q [(2, (.ite (.ite (.op (.un .not) [(.op (.call false 9) [(.sl 0)])]) (.k (.b true)) (.op (.bin .eql) [(.op (.call false 10) [(.sl 0)]), (.op (.call false 11) [(.sl 0)])])) (.op (.call false 12) []) (.k (.b false))))])
 (.ret [2])))⟩
theorem comp3 : compile Try.prog Try.f3 = some code3 := by kernel_rfl
theorem okf3 : okFn Try.prog 3 = true := by kernel_rfl
-- 4: corebank/corebanklaw17.CatalogAdds
def code4 : FCode := ⟨2, [.tmp 4],
 (.seq (.s [.box 3 (.t 1), .as 4 (.c (.b false))] [])
 (.seq (.seq (.q [(17, (.ite (.op (.un .not) [(.op (.call false 9) [(.sl 0)])]) (.k (.b true)) (.op (.un .not) [(.op (.call false 9) [(.op (.bsl 19) [(.op (.ld 19 true) [(.sl 3)])])])])))])
 (.cond (.sl 17) (.seq (.q [(4, (.op (.call false 12) []))])
 (.ret [4])) .skip))
 (.seq (.s [.mv 20 (.t 0), .q 21 (.ld 19 true) [(.t 3)], .call (some 22) 13 [(.t 20), (.t 21)], .mv 19 (.t 22), .ext 23 0 19, .ext 24 1 19, .as 5 (.t 23), .as 6 (.t 24)] [20, 21, 22, 19, 23, 24])
 (.seq (.s [.mv 26 (.t 0), .q 27 (.ld 19 true) [(.t 3)], .call (some 28) 14 [(.t 26), (.t 27)], .mv 25 (.t 28), .ext 29 0 25, .ext 30 1 25, .as 7 (.t 29), .as 8 (.t 30)] [26, 27, 28, 25, 29, 30])
 (.seq (.q [(4, (.ite (.ite (.ite (.op (.call false 15) [(.sl 5), (.sl 7)]) (.op (.bin .eql) [(.sl 6), (.sl 8)]) (.k (.b false))) (.ite (.op (.bin .neq) [(.sl 6), (.k (.i .i64 0))]) (.k (.b true)) (.op (.bin .eql) [(.op (.call false 10) [(.sl 5)]), (.k (.i .i64 0))])) (.k (.b false))) (.op (.call false 12) []) (.k (.b false))))])
 (.ret [4]))))))⟩
theorem comp4 : compile Try.prog Try.f4 = some code4 := by kernel_rfl
theorem okf4 : okFn Try.prog 4 = true := by kernel_rfl
-- 5: corebank/corebanklaw17.CatalogFinds
def body5_1 : C :=
 (.seq (.seq (.q [(70, (.op (.bin .lss) [(.sl 13), (.op .len [(.sl 11)])]))])
 (.cond (.sl 70) .skip (.exit 0 [])))
 (.seq (.blk 1 (.seq (.q [(81, (.op (.bin .neq) [(.op (.ld 1 false) [(.op (.ix 1) [(.sl 11), (.sl 13)])]), (.op (.ld 1 false) [(.op (.ix 1) [(.sl 12), (.sl 13)])])]))])
 (.cond (.sl 81) (.seq (.q [(6, (.k (.b false)))])
 (.ret [6])) .skip)))
 (.q [(13, (.op (.bin .add) [(.sl 13), (.k (.i .i64 1))]))])))
def code5 : FCode := ⟨3, [.tmp 6],
 (.seq (.q [(6, (.k (.b false)))])
 (.seq (.seq (.q [(21, (.ite (.op (.un .not) [(.op (.call false 9) [(.sl 0)])]) (.k (.b true)) (.op (.bin .gtr) [(.op .slen [(.sl 1)]), (.k (.i .i64 100))])))])
 (.cond (.sl 21) (.seq (.q [(6, (.op (.call false 12) []))])
 (.ret [6])) .skip))
 (.seq (.s [.mv 24 (.t 0), .mv 25 (.t 1), .mv 26 (.t 2), .call (some 27) 16 [(.t 24), (.t 25), (.t 26)], .mv 23 (.t 27), .ext 28 0 23, .ext 29 1 23, .alo 7 [(.s []), (.s []), (.s []), (.i .i64 0), (.i .i64 0), (.i .i64 0), (.i .i64 0), (.l []), (.b false), (.i .i64 0), (.i .i64 0), (.b false), (.l []), (.b false), (.i .i64 0), (.i .i64 0), (.b false), (.l []), (.l [])], .sto 19 (.t 7) (.t 28), .as 8 (.t 29)] [24, 25, 26, 27, 23, 28, 29])
 (.seq (.s [.mv 31 (.t 0), .mv 32 (.t 1), .mv 33 (.t 2), .call (some 34) 17 [(.t 31), (.t 32), (.t 33)], .mv 30 (.t 34), .ext 35 0 30, .ext 36 1 30, .alo 9 [(.s []), (.s []), (.s []), (.i .i64 0), (.i .i64 0), (.i .i64 0), (.i .i64 0), (.l []), (.b false), (.i .i64 0), (.i .i64 0), (.b false), (.l []), (.b false), (.i .i64 0), (.i .i64 0), (.b false), (.l []), (.l [])], .sto 19 (.t 9) (.t 35), .as 10 (.t 36)] [31, 32, 33, 34, 30, 35, 36])
 (.seq (.s [.mv 37 (.t 0), .call (some 38) 18 [(.t 37)], .mv 39 (.t 0), .call (some 40) 19 [(.t 39)], .as 11 (.t 38), .as 12 (.t 40)] [37, 38, 39, 40])
 (.seq (.seq (.q [(66, (.ite (.ite (.ite (.op (.un .not) [(.op (.call false 20) [(.op (.ld 19 true) [(.sl 7)]), (.op (.ld 19 true) [(.sl 9)])])]) (.k (.b true)) (.op (.binb .neq) [(.sl 8), (.sl 10)])) (.k (.b true)) (.op (.bin .neq) [(.op .len [(.sl 11)]), (.op .len [(.sl 12)])])) (.k (.b true)) (.op (.un .not) [(.op (.call false 15) [(.op (.call false 21) [(.sl 0), (.sl 1)]), (.op (.call false 22) [(.sl 0), (.sl 1)])])])))])
 (.cond (.sl 66) (.seq (.q [(6, (.k (.b false)))])
 (.ret [6])) .skip))
 (.seq (.seq (.q [(13, (.k (.i .i64 0)))])
 (.blk 0 (.loop [11, 12, 13] body5_1)))
 (.seq (.q [(6, (.op (.call false 12) []))])
 (.ret [6])))))))))⟩
theorem comp5 : compile Try.prog Try.f5 = some code5 := by kernel_rfl
theorem okf5 : okFn Try.prog 5 = true := by kernel_rfl
-- 6: corebank/corebanklaw17.CatalogChanges
def code6 : FCode := ⟨3, [.tmp 6],
 (.seq (.s [.box 5 (.t 2), .as 6 (.c (.b false))] [])
 (.seq (.seq (.q [(14, (.ite (.op (.un .not) [(.op (.call false 9) [(.sl 0)])]) (.k (.b true)) (.op (.bin .gtr) [(.op .slen [(.sl 1)]), (.k (.i .i64 100))])))])
 (.cond (.sl 14) (.seq (.q [(6, (.op (.call false 12) []))])
 (.ret [6])) .skip))
 (.seq (.q [(6, (.ite (.op (.call false 23) [(.op (.call false 24) [(.sl 0), (.sl 1), (.op (.ld 1 false) [(.op (.fa 0 1) [(.sl 5)])]), (.op (.ld 1 false) [(.op (.fa 1 1) [(.sl 5)])])]), (.op (.call false 25) [(.sl 0), (.sl 1), (.op (.ld 1 false) [(.op (.fa 0 1) [(.sl 5)])]), (.op (.ld 1 false) [(.op (.fa 1 1) [(.sl 5)])])])]) (.op (.call false 12) []) (.k (.b false))))])
 (.ret [6]))))⟩
theorem comp6 : compile Try.prog Try.f6 = some code6 := by kernel_rfl
theorem okf6 : okFn Try.prog 6 = true := by kernel_rfl
-- 7: corebank/corebanklaw17.CatalogLatest
def body7_1 : C :=
 (.seq (.seq (.q [(45, (.op (.bin .lss) [(.sl 10), (.op .len [(.sl 0)])]))])
 (.cond (.sl 45) .skip (.exit 0 [0, 1, 5, 7, 8, 9])))
 (.seq (.blk 1 (.seq (.seq (.q [(64, (.ite (.op (.bin .neq) [(.op (.ld 1 false) [(.op (.fa 0 1) [(.op (.ix 19) [(.sl 0), (.sl 10)])])]), (.sl 1)]) (.k (.b true)) (.op (.bin .gtr) [(.op (.ld 1 false) [(.op (.fa 3 1) [(.op (.ix 19) [(.sl 0), (.sl 10)])])]), (.op (.ld 1 false) [(.op (.fa 1 1) [(.sl 5)])])])))])
 (.cond (.sl 64) (.exit 1 [0, 1, 5, 7, 8, 9, 10]) .skip))
 (.seq (.seq (.q [(76, (.ite (.op (.un .not) [(.sl 8)]) (.k (.b true)) (.op (.bin .gtr) [(.op (.ld 1 false) [(.op (.fa 3 1) [(.op (.ix 19) [(.sl 0), (.sl 10)])])]), (.op (.ld 1 false) [(.op (.fa 3 1) [(.sl 7)])])])))])
 (.cond (.sl 76) (.seq (.q [(6, (.k (.b false)))])
 (.ret [6])) .skip))
 (.q [(9, (.ite (.sl 9) (.k (.b true)) (.op (.call true 20) [(.op (.ld 19 true) [(.op (.ix 19) [(.sl 0), (.sl 10)])]), (.op (.ld 19 true) [(.sl 7)])])))]))))
 (.q [(10, (.op (.bin .add) [(.sl 10), (.k (.i .i64 1))]))])))
def code7 : FCode := ⟨3, [.tmp 6],
 (.seq (.s [.box 5 (.t 2), .as 6 (.c (.b false))] [])
 (.seq (.seq (.q [(32, (.ite (.ite (.ite (.op (.un .not) [(.op (.call false 9) [(.sl 0)])]) (.k (.b true)) (.op (.bin .gtr) [(.op .slen [(.sl 1)]), (.k (.i .i64 100))])) (.k (.b true)) (.op (.bin .gtr) [(.op (.ld 1 false) [(.op (.fa 0 1) [(.sl 5)])]), (.op (.ld 1 false) [(.op (.fa 1 1) [(.sl 5)])])])) (.k (.b true)) (.op (.bin .eql) [(.op (.ld 1 false) [(.op (.fa 0 1) [(.sl 5)])]), (.k (.i .i64 (-9223372036854775808)))])))])
 (.cond (.sl 32) (.seq (.q [(6, (.op (.call false 12) []))])
 (.ret [6])) .skip))
 (.seq (.s [.mv 35 (.t 0), .mv 36 (.t 1), .fa 37 1 1 (.t 5), .q 38 (.ld 1 false) [(.t 37)], .call (some 39) 16 [(.t 35), (.t 36), (.t 38)], .mv 34 (.t 39), .ext 40 0 34, .ext 41 1 34, .alo 7 [(.s []), (.s []), (.s []), (.i .i64 0), (.i .i64 0), (.i .i64 0), (.i .i64 0), (.l []), (.b false), (.i .i64 0), (.i .i64 0), (.b false), (.l []), (.b false), (.i .i64 0), (.i .i64 0), (.b false), (.l []), (.l [])], .sto 19 (.t 7) (.t 40), .as 8 (.t 41)] [35, 36, 37, 38, 39, 34, 40, 41])
 (.seq (.q [(9, (.k (.b false)))])
 (.seq (.seq (.q [(10, (.k (.i .i64 0)))])
 (.blk 0 (.loop [0, 1, 5, 7, 8, 9, 10] body7_1)))
 (.seq (.seq (.q [(104, (.ite (.op (.binb .neq) [(.sl 8), (.sl 9)]) (.k (.b true)) (.ite (.sl 8) (.ite (.op (.bin .neq) [(.op (.ld 1 false) [(.op (.fa 0 1) [(.sl 7)])]), (.sl 1)]) (.k (.b true)) (.op (.bin .gtr) [(.op (.ld 1 false) [(.op (.fa 3 1) [(.sl 7)])]), (.op (.ld 1 false) [(.op (.fa 1 1) [(.sl 5)])])])) (.k (.b false)))))])
 (.cond (.sl 104) (.seq (.q [(6, (.k (.b false)))])
 (.ret [6])) .skip))
 (.seq (.s [.mv 106 (.t 0), .mv 107 (.t 1), .fa 108 0 1 (.t 5), .q 109 (.ld 1 false) [(.t 108)], .q 110 (.bin .sub) [(.t 109), (.c (.i .i64 1))], .call (some 111) 16 [(.t 106), (.t 107), (.t 110)], .mv 105 (.t 111), .ext 112 0 105, .ext 113 1 105, .alo 11 [(.s []), (.s []), (.s []), (.i .i64 0), (.i .i64 0), (.i .i64 0), (.i .i64 0), (.l []), (.b false), (.i .i64 0), (.i .i64 0), (.b false), (.l []), (.b false), (.i .i64 0), (.i .i64 0), (.b false), (.l []), (.l [])], .sto 19 (.t 11) (.t 112), .as 12 (.t 113)] [106, 107, 108, 109, 110, 111, 105, 112, 113])
 (.seq (.seq (.q [(122, (.op (.bin .eql) [(.op .len [(.op (.call false 24) [(.sl 0), (.sl 1), (.op (.ld 1 false) [(.op (.fa 0 1) [(.sl 5)])]), (.op (.ld 1 false) [(.op (.fa 1 1) [(.sl 5)])])])]), (.k (.i .i64 0))]))])
 (.cond (.sl 122) (.seq (.q [(6, (.ite (.ite (.op (.binb .eql) [(.sl 8), (.sl 12)]) (.op (.call false 20) [(.op (.ld 19 true) [(.sl 7)]), (.op (.ld 19 true) [(.sl 11)])]) (.k (.b false))) (.op (.call false 12) []) (.k (.b false))))])
 (.ret [6])) .skip))
 (.seq (.q [(6, (.ite (.ite (.sl 8) (.op (.bin .geq) [(.op (.ld 1 false) [(.op (.fa 3 1) [(.sl 7)])]), (.op (.ld 1 false) [(.op (.fa 0 1) [(.sl 5)])])]) (.k (.b false))) (.op (.call false 12) []) (.k (.b false))))])
 (.ret [6]))))))))))⟩
theorem comp7 : compile Try.prog Try.f7 = some code7 := by kernel_rfl
theorem okf7 : okFn Try.prog 7 = true := by kernel_rfl
-- 8: corebank/corebanklaw17.CatalogKeeps
def body8_1 : C :=
 (.seq (.seq (.q [(78, (.op (.bin .lss) [(.sl 13), (.op .len [(.sl 0)])]))])
 (.cond (.sl 78) .skip (.exit 0 [])))
 (.seq (.blk 1 (.seq (.seq (.q [(95, (.ite (.op (.bin .eql) [(.op (.ld 1 false) [(.op (.fa 0 1) [(.op (.ix 19) [(.sl 0), (.sl 13)])])]), (.op (.ld 1 false) [(.op (.fa 0 1) [(.sl 4)])])]) (.op (.bin .geq) [(.op (.ld 1 false) [(.op (.fa 1 1) [(.sl 5)])]), (.op (.ld 1 false) [(.op (.fa 3 1) [(.sl 4)])])]) (.k (.b false))))])
 (.cond (.sl 95) (.exit 1 [0, 4, 5, 7, 13]) .skip))
 (.seq (.d [.mv 97 (.t 0), .mv 98 (.t 0), .mv 99 (.t 13), .ix 100 19 (.t 98) (.t 99), .fa 101 0 1 (.t 100), .q 102 (.ld 1 false) [(.t 101)], .fa 103 1 1 (.t 5), .q 104 (.ld 1 false) [(.t 103)], .call (some 105) 16 [(.t 97), (.t 102), (.t 104)], .mv 96 (.t 105), .ext 106 0 96, .ext 107 1 96, .alo 14 [(.s []), (.s []), (.s []), (.i .i64 0), (.i .i64 0), (.i .i64 0), (.i .i64 0), (.l []), (.b false), (.i .i64 0), (.i .i64 0), (.b false), (.l []), (.b false), (.i .i64 0), (.i .i64 0), (.b false), (.l []), (.l [])], .sto 19 (.t 14) (.t 106), .as 15 (.t 107)] [[], [], [], [1, 2], [3], [4], [], [6], [0, 5, 7], [8], [9], [9], [], [12, 10, 8, 0, 1, 2, 3, 4, 5, 6, 7, 8, 9, 10, 12], [11, 13, 0, 1, 2, 3, 4, 5, 6, 7, 8, 9, 10, 11, 12, 13]] [97, 98, 99, 100, 101, 102, 103, 104, 105, 96, 106, 107])
 (.seq (.d [.mv 109 (.t 7), .mv 110 (.t 0), .mv 111 (.t 13), .ix 112 19 (.t 110) (.t 111), .fa 113 0 1 (.t 112), .q 114 (.ld 1 false) [(.t 113)], .fa 115 1 1 (.t 5), .q 116 (.ld 1 false) [(.t 115)], .call (some 117) 16 [(.t 109), (.t 114), (.t 116)], .mv 108 (.t 117), .ext 118 0 108, .ext 119 1 108, .alo 16 [(.s []), (.s []), (.s []), (.i .i64 0), (.i .i64 0), (.i .i64 0), (.i .i64 0), (.l []), (.b false), (.i .i64 0), (.i .i64 0), (.b false), (.l []), (.b false), (.i .i64 0), (.i .i64 0), (.b false), (.l []), (.l [])], .sto 19 (.t 16) (.t 118), .as 17 (.t 119)] [[], [], [], [1, 2], [3], [4], [], [6], [0, 5, 7], [8], [9], [9], [], [12, 10, 8, 0, 1, 2, 3, 4, 5, 6, 7, 8, 9, 10, 12], [11, 13, 0, 1, 2, 3, 4, 5, 6, 7, 8, 9, 10, 11, 12, 13]] [109, 110, 111, 112, 113, 114, 115, 116, 117, 108, 118, 119])
 (.seq (.q [(128, (.ite (.op (.binb .neq) [(.sl 15), (.sl 17)]) (.k (.b true)) (.op (.un .not) [(.op (.call false 20) [(.op (.ld 19 true) [(.sl 14)]), (.op (.ld 19 true) [(.sl 16)])])])))])
 (.cond (.sl 128) (.seq (.q [(6, (.k (.b false)))])
 (.ret [6])) .skip))))))
 (.q [(13, (.op (.bin .add) [(.sl 13), (.k (.i .i64 1))]))])))
def code8 : FCode := ⟨3, [.tmp 6],
 (.seq (.s [.box 4 (.t 1), .box 5 (.t 2), .as 6 (.c (.b false))] [])
 (.seq (.seq (.q [(31, (.ite (.ite (.op (.un .not) [(.op (.call false 9) [(.sl 0)])]) (.k (.b true)) (.op (.un .not) [(.op (.call false 9) [(.op (.bsl 19) [(.op (.ld 19 true) [(.sl 4)])])])])) (.k (.b true)) (.op (.bin .neq) [(.op (.call false 11) [(.sl 0)]), (.k (.i .i64 0))])))])
 (.cond (.sl 31) (.seq (.q [(6, (.op (.call false 12) []))])
 (.ret [6])) .skip))
 (.seq (.s [.mv 34 (.t 0), .q 35 (.ld 19 true) [(.t 4)], .call (some 36) 13 [(.t 34), (.t 35)], .mv 33 (.t 36), .ext 37 0 33, .ext 38 1 33, .as 7 (.t 37), .as 8 (.t 38)] [34, 35, 36, 33, 37, 38])
 (.seq (.seq (.q [(40, (.op (.bin .neq) [(.sl 8), (.k (.i .i64 0))]))])
 (.cond (.sl 40) (.seq (.s [.mv 42 (.t 0), .q 43 (.ld 19 true) [(.t 4)], .call (some 44) 14 [(.t 42), (.t 43)], .mv 41 (.t 44), .ext 45 0 41, .ext 46 1 41, .as 9 (.t 45), .as 10 (.t 46)] [42, 43, 44, 41, 45, 46, 9])
 (.seq (.q [(6, (.ite (.ite (.op (.bin .eql) [(.op .len [(.sl 7)]), (.k (.i .i64 0))]) (.op (.bin .eql) [(.sl 8), (.sl 10)]) (.k (.b false))) (.op (.call false 12) []) (.k (.b false))))])
 (.ret [6]))) .skip))
 (.seq (.s [.mv 59 (.t 7), .fa 60 0 1 (.t 4), .q 61 (.ld 1 false) [(.t 60)], .fa 62 3 1 (.t 4), .q 63 (.ld 1 false) [(.t 62)], .call (some 64) 16 [(.t 59), (.t 61), (.t 63)], .mv 58 (.t 64), .ext 65 0 58, .ext 66 1 58, .alo 11 [(.s []), (.s []), (.s []), (.i .i64 0), (.i .i64 0), (.i .i64 0), (.i .i64 0), (.l []), (.b false), (.i .i64 0), (.i .i64 0), (.b false), (.l []), (.b false), (.i .i64 0), (.i .i64 0), (.b false), (.l []), (.l [])], .sto 19 (.t 11) (.t 65), .as 12 (.t 66)] [59, 60, 61, 62, 63, 64, 58, 65, 66])
 (.seq (.seq (.q [(74, (.ite (.op (.un .not) [(.sl 12)]) (.k (.b true)) (.op (.un .not) [(.op (.call false 20) [(.op (.ld 19 true) [(.sl 11)]), (.op (.ld 19 true) [(.sl 4)])])])))])
 (.cond (.sl 74) (.seq (.q [(6, (.k (.b false)))])
 (.ret [6])) .skip))
 (.seq (.seq (.q [(13, (.k (.i .i64 0)))])
 (.blk 0 (.loop [0, 4, 5, 7, 13] body8_1)))
 (.seq (.q [(6, (.op (.call false 12) []))])
 (.ret [6])))))))))⟩
theorem comp8 : compile Try.prog Try.f8 = some code8 := by kernel_rfl
theorem okf8 : okFn Try.prog 8 = true := by kernel_rfl
-- 9: corebank/corebanklaw17.light
def body9_1 : C :=
 (.seq (.seq (.q [(66, (.op (.bin .lss) [(.sl 5), (.op .len [(.op (.ld 1 false) [(.op (.fa 17 1) [(.sl 4)])])])]))])
 (.cond (.sl 66) .skip (.exit 2 [0, 3, 4])))
 (.seq (.blk 3 (.seq (.q [(120, (.ite (.ite (.ite (.ite (.op (.bin .gtr) [(.op .slen [(.op (.ld 1 false) [(.op (.fa 0 1) [(.op (.ix 10) [(.op (.ld 1 false) [(.op (.fa 17 1) [(.sl 4)])]), (.sl 5)])])])]), (.k (.i .i64 100))]) (.k (.b true)) (.op (.bin .gtr) [(.op .len [(.op (.ld 1 false) [(.op (.fa 3 1) [(.op (.fa 2 4) [(.op (.ix 10) [(.op (.ld 1 false) [(.op (.fa 17 1) [(.sl 4)])]), (.sl 5)])])])])]), (.k (.i .i64 0))])) (.k (.b true)) (.op (.bin .gtr) [(.op .len [(.op (.ld 1 false) [(.op (.fa 3 1) [(.op (.fa 6 4) [(.op (.ix 10) [(.op (.ld 1 false) [(.op (.fa 17 1) [(.sl 4)])]), (.sl 5)])])])])]), (.k (.i .i64 0))])) (.k (.b true)) (.op (.bin .gtr) [(.op .slen [(.op (.ld 1 false) [(.op (.fa 2 1) [(.op (.fa 2 4) [(.op (.ix 10) [(.op (.ld 1 false) [(.op (.fa 17 1) [(.sl 4)])]), (.sl 5)])])])])]), (.k (.i .i64 100))])) (.k (.b true)) (.op (.bin .gtr) [(.op .slen [(.op (.ld 1 false) [(.op (.fa 2 1) [(.op (.fa 6 4) [(.op (.ix 10) [(.op (.ld 1 false) [(.op (.fa 17 1) [(.sl 4)])]), (.sl 5)])])])])]), (.k (.i .i64 100))])))])
 (.cond (.sl 120) (.seq (.q [(2, (.k (.b false)))])
 (.ret [2])) .skip)))
 (.q [(5, (.op (.bin .add) [(.sl 5), (.k (.i .i64 1))]))])))
def body9_2 : C :=
 (.seq (.seq (.q [(125, (.op (.bin .lss) [(.sl 6), (.op .len [(.op (.ld 1 false) [(.op (.fa 18 1) [(.sl 4)])])])]))])
 (.cond (.sl 125) .skip (.exit 4 [0, 3])))
 (.seq (.blk 5 (.seq (.q [(157, (.ite (.ite (.op (.bin .gtr) [(.op .slen [(.op (.ld 1 false) [(.op (.fa 0 1) [(.op (.ix 6) [(.op (.ld 1 false) [(.op (.fa 18 1) [(.sl 4)])]), (.sl 6)])])])]), (.k (.i .i64 100))]) (.k (.b true)) (.op (.bin .gtr) [(.op .len [(.op (.ld 1 false) [(.op (.fa 3 1) [(.op (.fa 2 4) [(.op (.ix 6) [(.op (.ld 1 false) [(.op (.fa 18 1) [(.sl 4)])]), (.sl 6)])])])])]), (.k (.i .i64 0))])) (.k (.b true)) (.op (.bin .gtr) [(.op .slen [(.op (.ld 1 false) [(.op (.fa 2 1) [(.op (.fa 2 4) [(.op (.ix 6) [(.op (.ld 1 false) [(.op (.fa 18 1) [(.sl 4)])]), (.sl 6)])])])])]), (.k (.i .i64 100))])))])
 (.cond (.sl 157) (.seq (.q [(2, (.k (.b false)))])
 (.ret [2])) .skip)))
 (.q [(6, (.op (.bin .add) [(.sl 6), (.k (.i .i64 1))]))])))
def body9_3 : C :=
 (.seq (.seq (.q [(13, (.op (.bin .lss) [(.sl 3), (.op .len [(.sl 0)])]))])
 (.cond (.sl 13) .skip (.exit 0 [])))
 (.seq (.blk 1 (.seq (.s [.mv 16 (.t 0), .mv 17 (.t 3), .ix 18 19 (.t 16) (.t 17), .q 19 (.ld 19 true) [(.t 18)], .alo 4 [(.s []), (.s []), (.s []), (.i .i64 0), (.i .i64 0), (.i .i64 0), (.i .i64 0), (.l []), (.b false), (.i .i64 0), (.i .i64 0), (.b false), (.l []), (.b false), (.i .i64 0), (.i .i64 0), (.b false), (.l []), (.l [])], .sto 19 (.t 4) (.t 19)] [16, 17, 18, 19])
 (.seq (.seq (.q [(61, (.ite (.ite (.ite (.ite (.ite (.ite (.op (.bin .gtr) [(.op .slen [(.op (.ld 1 false) [(.op (.fa 0 1) [(.sl 4)])])]), (.k (.i .i64 100))]) (.k (.b true)) (.op (.bin .gtr) [(.op .slen [(.op (.ld 1 false) [(.op (.fa 1 1) [(.sl 4)])])]), (.k (.i .i64 100))])) (.k (.b true)) (.op (.bin .gtr) [(.op .slen [(.op (.ld 1 false) [(.op (.fa 2 1) [(.sl 4)])])]), (.k (.i .i64 100))])) (.k (.b true)) (.op (.bin .gtr) [(.op .len [(.op (.ld 1 false) [(.op (.fa 17 1) [(.sl 4)])])]), (.k (.i .i64 20))])) (.k (.b true)) (.op (.bin .gtr) [(.op .len [(.op (.ld 1 false) [(.op (.fa 18 1) [(.sl 4)])])]), (.k (.i .i64 20))])) (.k (.b true)) (.op (.bin .gtr) [(.op .len [(.op (.ld 1 false) [(.op (.fa 0 1) [(.op (.fa 7 5) [(.sl 4)])])])]), (.k (.i .i64 20))])) (.k (.b true)) (.op (.bin .gtr) [(.op .len [(.op (.ld 1 false) [(.op (.fa 0 1) [(.op (.fa 12 5) [(.sl 4)])])])]), (.k (.i .i64 20))])))])
 (.cond (.sl 61) (.seq (.q [(2, (.k (.b false)))])
 (.ret [2])) .skip))
 (.seq (.seq (.q [(5, (.k (.i .i64 0)))])
 (.blk 2 (.loop [0, 3, 4, 5] body9_1)))
 (.seq (.q [(6, (.k (.i .i64 0)))])
 (.blk 4 (.loop [0, 3, 4, 6] body9_2)))))))
 (.q [(3, (.op (.bin .add) [(.sl 3), (.k (.i .i64 1))]))])))
def code9 : FCode := ⟨1, [.tmp 2],
 (.seq (.q [(2, (.k (.b false)))])
 (.seq (.seq (.q [(9, (.op (.bin .gtr) [(.op .len [(.sl 0)]), (.k (.i .i64 100))]))])
 (.cond (.sl 9) (.seq (.q [(2, (.k (.b false)))])
 (.ret [2])) .skip))
 (.seq (.seq (.q [(3, (.k (.i .i64 0)))])
 (.blk 0 (.loop [0, 3] body9_3)))
 (.seq (.q [(2, (.k (.b true)))])
 (.ret [2])))))⟩
theorem comp9 : compile Try.prog Try.f9 = some code9 := by kernel_rfl
theorem okf9 : okFn Try.prog 9 = true := by kernel_rfl
-- 10: corebank/catalog.Check
def body10_1 : C :=
 (.seq (.seq (.q [(11, (.op (.bin .lss) [(.sl 3), (.op .len [(.sl 0)])]))])
 (.cond (.sl 11) .skip (.exit 0 [0])))
 (.seq (.blk 1 (.seq (.q [(24, (.op (.bin .geq) [(.op (.call true 26) [(.op (.ld 19 true) [(.op (.ix 19) [(.sl 0), (.op (.bin .sub) [(.sl 3), (.k (.i .i64 1))])])]), (.op (.ld 19 true) [(.op (.ix 19) [(.sl 0), (.sl 3)])])]), (.k (.i .i64 0))]))])
 (.cond (.sl 24) (.seq (.q [(2, (.k (.i .i64 10)))])
 (.ret [2])) .skip)))
 (.q [(3, (.op (.bin .add) [(.sl 3), (.k (.i .i64 1))]))])))
def body10_2 : C :=
 (.seq (.seq (.q [(28, (.op (.bin .lss) [(.sl 4), (.op .len [(.sl 0)])]))])
 (.cond (.sl 28) .skip (.exit 2 [])))
 (.seq (.blk 3 (.seq (.q [(56, (.ite (.op (.bin .eql) [(.op (.ld 1 false) [(.op (.fa 0 1) [(.op (.ix 19) [(.sl 0), (.sl 4)])])]), (.op (.ld 1 false) [(.op (.fa 0 1) [(.op (.ix 19) [(.sl 0), (.op (.bin .sub) [(.sl 4), (.k (.i .i64 1))])])])])]) (.op (.bin .neq) [(.op (.ld 1 false) [(.op (.fa 1 1) [(.op (.ix 19) [(.sl 0), (.sl 4)])])]), (.op (.ld 1 false) [(.op (.fa 1 1) [(.op (.ix 19) [(.sl 0), (.op (.bin .sub) [(.sl 4), (.k (.i .i64 1))])])])])]) (.k (.b false))))])
 (.cond (.sl 56) (.seq (.q [(2, (.k (.i .i64 14)))])
 (.ret [2])) .skip)))
 (.q [(4, (.op (.bin .add) [(.sl 4), (.k (.i .i64 1))]))])))
def code10 : FCode := ⟨1, [.tmp 2],
 (.seq (.q [(2, (.k (.i .i64 0)))])
 (.seq (.seq (.q [(7, (.op (.bin .gtr) [(.op .len [(.sl 0)]), (.k (.i .i64 64))]))])
 (.cond (.sl 7) (.seq (.q [(2, (.k (.i .i64 5)))])
 (.ret [2])) .skip))
 (.seq (.seq (.q [(3, (.k (.i .i64 1)))])
 (.blk 0 (.loop [0, 3] body10_1)))
 (.seq (.seq (.q [(4, (.k (.i .i64 1)))])
 (.blk 2 (.loop [0, 4] body10_2)))
 (.seq (.q [(2, (.k (.i .i64 0)))])
 (.ret [2]))))))⟩
theorem comp10 : compile Try.prog Try.f10 = some code10 := by kernel_rfl
theorem okf10 : okFn Try.prog 10 = true := by kernel_rfl
-- 11: corebank/corebankref17.Check
def body11_1 : C :=
 (.seq (.seq (.q [(11, (.op (.bin .lss) [(.sl 3), (.op .len [(.sl 0)])]))])
 (.cond (.sl 11) .skip (.exit 0 [0])))
 (.seq (.blk 1 (.seq (.q [(24, (.op (.un .not) [(.op (.call true 27) [(.op (.ld 19 true) [(.op (.ix 19) [(.sl 0), (.op (.bin .sub) [(.sl 3), (.k (.i .i64 1))])])]), (.op (.ld 19 true) [(.op (.ix 19) [(.sl 0), (.sl 3)])])])]))])
 (.cond (.sl 24) (.seq (.q [(2, (.k (.i .i64 10)))])
 (.ret [2])) .skip)))
 (.q [(3, (.op (.bin .add) [(.sl 3), (.k (.i .i64 1))]))])))
def body11_2 : C :=
 (.seq (.seq (.q [(28, (.op (.bin .lss) [(.sl 4), (.op .len [(.sl 0)])]))])
 (.cond (.sl 28) .skip (.exit 2 [])))
 (.seq (.blk 3 (.seq (.q [(56, (.ite (.op (.bin .eql) [(.op (.ld 1 false) [(.op (.fa 0 1) [(.op (.ix 19) [(.sl 0), (.sl 4)])])]), (.op (.ld 1 false) [(.op (.fa 0 1) [(.op (.ix 19) [(.sl 0), (.op (.bin .sub) [(.sl 4), (.k (.i .i64 1))])])])])]) (.op (.bin .neq) [(.op (.ld 1 false) [(.op (.fa 1 1) [(.op (.ix 19) [(.sl 0), (.sl 4)])])]), (.op (.ld 1 false) [(.op (.fa 1 1) [(.op (.ix 19) [(.sl 0), (.op (.bin .sub) [(.sl 4), (.k (.i .i64 1))])])])])]) (.k (.b false))))])
 (.cond (.sl 56) (.seq (.q [(2, (.k (.i .i64 14)))])
 (.ret [2])) .skip)))
 (.q [(4, (.op (.bin .add) [(.sl 4), (.k (.i .i64 1))]))])))
def code11 : FCode := ⟨1, [.tmp 2],
 (.seq (.q [(2, (.k (.i .i64 0)))])
 (.seq (.seq (.q [(7, (.op (.bin .gtr) [(.op .len [(.sl 0)]), (.k (.i .i64 64))]))])
 (.cond (.sl 7) (.seq (.q [(2, (.k (.i .i64 5)))])
 (.ret [2])) .skip))
 (.seq (.seq (.q [(3, (.k (.i .i64 1)))])
 (.blk 0 (.loop [0, 3] body11_1)))
 (.seq (.seq (.q [(4, (.k (.i .i64 1)))])
 (.blk 2 (.loop [0, 4] body11_2)))
 (.seq (.q [(2, (.k (.i .i64 0)))])
 (.ret [2]))))))⟩
theorem comp11 : compile Try.prog Try.f11 = some code11 := by kernel_rfl
theorem okf11 : okFn Try.prog 11 = true := by kernel_rfl
-- 12: corebank/corebanklaw17.live
def code12 : FCode := ⟨0, [.tmp 0],
 (.seq (.q [(0, (.k (.b false)))])
 (.seq (.s [.bld 12 [(.s []), (.s []), (.s []), (.i .i64 0), (.i .i64 0), (.i .i64 0), (.i .i64 0), (.l []), (.b false), (.i .i64 0), (.i .i64 0), (.b false), (.l []), (.b false), (.i .i64 0), (.i .i64 0), (.b false), (.l []), (.l [])] [(0, 1), (1, 1)] [(.c (.s [103, 105, 114, 111])), (.c (.s [69, 85, 82]))], .bld 13 [(.s []), (.s []), (.s []), (.i .i64 0), (.i .i64 0), (.i .i64 0), (.i .i64 0), (.l []), (.b false), (.i .i64 0), (.i .i64 0), (.b false), (.l []), (.b false), (.i .i64 0), (.i .i64 0), (.b false), (.l []), (.l [])] [(0, 1), (1, 1), (3, 1), (4, 1)] [(.c (.s [103, 105, 114, 111])), (.c (.s [69, 85, 82])), (.c (.i .i64 100)), (.c (.i .i64 3))], .bsl 14 33 19 [(.t 12), (.t 13)], .as 1 (.t 14)] [12, 13, 14])
 (.seq (.s [.mv 16 (.t 1), .call (some 17) 16 [(.t 16), (.c (.s [103, 105, 114, 111])), (.c (.i .i64 99))], .mv 15 (.t 17), .ext 18 0 15, .ext 19 1 15, .alo 2 [(.s []), (.s []), (.s []), (.i .i64 0), (.i .i64 0), (.i .i64 0), (.i .i64 0), (.l []), (.b false), (.i .i64 0), (.i .i64 0), (.b false), (.l []), (.b false), (.i .i64 0), (.i .i64 0), (.b false), (.l []), (.l [])], .sto 19 (.t 2) (.t 18), .as 3 (.t 19)] [16, 17, 15, 18, 19])
 (.seq (.s [.mv 21 (.t 1), .call (some 22) 16 [(.t 21), (.c (.s [103, 105, 114, 111])), (.c (.i .i64 100))], .mv 20 (.t 22), .ext 23 0 20, .ext 24 1 20, .alo 4 [(.s []), (.s []), (.s []), (.i .i64 0), (.i .i64 0), (.i .i64 0), (.i .i64 0), (.l []), (.b false), (.i .i64 0), (.i .i64 0), (.b false), (.l []), (.b false), (.i .i64 0), (.i .i64 0), (.b false), (.l []), (.l [])], .sto 19 (.t 4) (.t 23), .as 5 (.t 24)] [21, 22, 20, 23, 24])
 (.seq (.s [.mv 26 (.t 1), .call (some 27) 16 [(.t 26), (.c (.s [103, 105, 114, 111])), (.c (.i .i64 (-1)))], .mv 25 (.t 27), .ext 28 0 25, .ext 29 1 25, .alo 6 [(.s []), (.s []), (.s []), (.i .i64 0), (.i .i64 0), (.i .i64 0), (.i .i64 0), (.l []), (.b false), (.i .i64 0), (.i .i64 0), (.b false), (.l []), (.b false), (.i .i64 0), (.i .i64 0), (.b false), (.l []), (.l [])], .sto 19 (.t 6) (.t 28), .as 7 (.t 29)] [26, 27, 25, 28, 29, 6])
 (.seq (.s [.mv 31 (.t 1), .bld 32 [(.s []), (.s []), (.s []), (.i .i64 0), (.i .i64 0), (.i .i64 0), (.i .i64 0), (.l []), (.b false), (.i .i64 0), (.i .i64 0), (.b false), (.l []), (.b false), (.i .i64 0), (.i .i64 0), (.b false), (.l []), (.l [])] [(0, 1), (1, 1)] [(.c (.s [103, 105, 108, 116])), (.c (.s [85, 83, 68]))], .call (some 33) 13 [(.t 31), (.t 32)], .mv 30 (.t 33), .ext 34 0 30, .ext 35 1 30, .as 8 (.t 34), .as 9 (.t 35)] [31, 32, 33, 30, 34, 35])
 (.seq (.s [.mv 37 (.t 1), .bld 38 [(.s []), (.s []), (.s []), (.i .i64 0), (.i .i64 0), (.i .i64 0), (.i .i64 0), (.l []), (.b false), (.i .i64 0), (.i .i64 0), (.b false), (.l []), (.b false), (.i .i64 0), (.i .i64 0), (.b false), (.l []), (.l [])] [(0, 1), (1, 1), (3, 1)] [(.c (.s [103, 105, 114, 111])), (.c (.s [85, 83, 68])), (.c (.i .i64 100))], .call (some 39) 13 [(.t 37), (.t 38)], .mv 36 (.t 39), .ext 40 0 36, .ext 41 1 36, .as 10 (.t 40), .as 11 (.t 41)] [37, 38, 39, 36, 40, 41, 10])
 (.seq (.q [(0, (.ite (.ite (.ite (.ite (.ite (.ite (.ite (.ite (.ite (.ite (.ite (.ite (.sl 3) (.op (.bin .eql) [(.op (.ld 1 false) [(.op (.fa 3 1) [(.sl 2)])]), (.k (.i .i64 0))]) (.k (.b false))) (.sl 5) (.k (.b false))) (.op (.bin .eql) [(.op (.ld 1 false) [(.op (.fa 4 1) [(.sl 4)])]), (.k (.i .i64 3))]) (.k (.b false))) (.op (.un .not) [(.sl 7)]) (.k (.b false))) (.op (.bin .eql) [(.sl 9), (.k (.i .i64 0))]) (.k (.b false))) (.op (.bin .eql) [(.op .len [(.sl 8)]), (.k (.i .i64 3))]) (.k (.b false))) (.op (.bin .eql) [(.op (.ld 1 false) [(.op (.fa 0 1) [(.op (.ix 19) [(.sl 8), (.k (.i .i64 0))])])]), (.k (.s [103, 105, 108, 116]))]) (.k (.b false))) (.op (.bin .eql) [(.sl 11), (.k (.i .i64 12))]) (.k (.b false))) (.op (.call false 23) [(.op (.call false 24) [(.sl 1), (.k (.s [103, 105, 114, 111])), (.k (.i .i64 1)), (.k (.i .i64 100))]), (.op (.bsl 1) [(.k (.i .i64 100))])]) (.k (.b false))) (.op (.bin .eql) [(.op .len [(.op (.call false 21) [(.sl 1), (.k (.s [103, 105, 114, 111]))])]), (.k (.i .i64 2))]) (.k (.b false))) (.op (.bin .eql) [(.op .len [(.op (.call false 18) [(.sl 1)])]), (.k (.i .i64 1))]) (.k (.b false))) (.op (.bin .eql) [(.op (.call false 10) [(.sl 1)]), (.k (.i .i64 0))]) (.k (.b false))))])
 (.ret [0])))))))))⟩
theorem comp12 : compile Try.prog Try.f12 = some code12 := by kernel_rfl
theorem okf12 : okFn Try.prog 12 = true := by kernel_rfl
-- 13: corebank/catalog.Add
def body13_1 : C :=
 (.seq (.q [(26, (.op (.bin .lss) [(.sl 25), (.sl 24)]))])
 (.seq (.cond (.sl 26) .skip (.exit 0 [0, 3, 6]))
 (.seq (.blk 1 (.seq (.s [.ix 27 19 (.t 23) (.t 25), .q 28 (.ld 19 true) [(.t 27)], .alo 9 [(.s []), (.s []), (.s []), (.i .i64 0), (.i .i64 0), (.i .i64 0), (.i .i64 0), (.l []), (.b false), (.i .i64 0), (.i .i64 0), (.b false), (.l []), (.b false), (.i .i64 0), (.i .i64 0), (.b false), (.l []), (.l [])], .sto 19 (.t 9) (.t 28)] [27, 28])
 (.seq (.q [(33, (.op (.bin .neq) [(.op (.ld 1 false) [(.op (.fa 1 1) [(.sl 9)])]), (.op (.ld 1 false) [(.op (.fa 1 1) [(.sl 3)])])]))])
 (.cond (.sl 33) (.seq (.s [.as 4 (.c (.ow 33 [])), .as 5 (.c (.i .i64 14))] [])
 (.ret [4, 5])) .skip))))
 (.q [(25, (.op (.bin .add) [(.sl 25), (.k (.i .i64 1))]))]))))
def code13 : FCode := ⟨2, [.tmp 4, .tmp 5],
 (.seq (.s [.box 3 (.t 1), .as 4 (.c (.ow 33 [])), .as 5 (.c (.i .i64 0))] [])
 (.seq (.seq (.q [(12, (.op (.bin .neq) [(.op (.call false 10) [(.sl 0)]), (.k (.i .i64 0))]))])
 (.cond (.sl 12) (.seq (.s [.as 4 (.c (.ow 33 [])), .as 5 (.c (.i .i64 1))] [])
 (.ret [4, 5])) .skip))
 (.seq (.q [(6, (.op (.ext 0) [(.op (.call false 28) [(.sl 0), (.op (.ld 19 true) [(.sl 3)]), (.k (.f (.func 26) [] []))])])), (7, (.op (.ext 1) [(.op (.call false 28) [(.sl 0), (.op (.ld 19 true) [(.sl 3)]), (.k (.f (.func 26) [] []))])]))])
 (.seq (.seq (.q [(19, (.sl 7))])
 (.cond (.sl 19) (.seq (.s [.as 4 (.c (.ow 33 [])), .as 5 (.c (.i .i64 12))] [])
 (.ret [4, 5])) .skip))
 (.seq (.seq (.s [.mv 20 (.t 0), .fa 21 0 1 (.t 3), .q 22 (.ld 1 false) [(.t 21)], .call (some 23) 21 [(.t 20), (.t 22)], .q 24 .len [(.t 23)], .mv 25 (.c (.i .i64 0))] [20, 21, 22])
 (.blk 0 (.loop [0, 3, 6, 23, 24, 25] body13_1)))
 (.seq (.seq (.q [(37, (.op (.bin .geq) [(.op .len [(.sl 0)]), (.k (.i .i64 64))]))])
 (.cond (.sl 37) (.seq (.s [.as 4 (.c (.ow 33 [])), .as 5 (.c (.i .i64 5))] [])
 (.ret [4, 5])) .skip))
 (.seq (.d [.mv 38 (.t 0), .call (some 39) 30 [(.t 38)], .mv 40 (.t 6), .q 41 (.ld 19 true) [(.t 3)], .bsl 42 33 19 [(.t 41)], .callm (some 43) 29 (mutOf 29) (.t 39) [(.t 40), (.t 42)], .as 4 (.t 43), .as 5 (.c (.i .i64 0))] [[], [0], [], [], [3], [1, 2, 4, 1], [5, 5, 0, 1, 2, 3, 4, 5], [6, 0, 1, 2, 3, 4, 5, 6]] [38, 39, 40, 41, 42, 43])
 (.ret [4, 5]))))))))⟩
theorem comp13 : compile Try.prog Try.f13 = some code13 := by kernel_rfl
theorem okf13 : okFn Try.prog 13 = true := by kernel_rfl
-- 14: corebank/corebankref17.Add
def body14_1 : C :=
 (.seq (.seq (.q [(16, (.op (.bin .lss) [(.sl 7), (.op .len [(.sl 0)])]))])
 (.cond (.sl 16) .skip (.exit 0 [0, 3, 6])))
 (.seq (.blk 1 (.seq (.seq (.q [(36, (.ite (.op (.bin .eql) [(.op (.ld 1 false) [(.op (.fa 0 1) [(.op (.ix 19) [(.sl 0), (.sl 7)])])]), (.op (.ld 1 false) [(.op (.fa 0 1) [(.sl 3)])])]) (.op (.bin .eql) [(.op (.ld 1 false) [(.op (.fa 3 1) [(.op (.ix 19) [(.sl 0), (.sl 7)])])]), (.op (.ld 1 false) [(.op (.fa 3 1) [(.sl 3)])])]) (.k (.b false))))])
 (.cond (.sl 36) (.seq (.s [.as 4 (.c (.ow 33 [])), .as 5 (.c (.i .i64 12))] [])
 (.ret [4, 5])) .skip))
 (.q [(6, (.ite (.sl 6) (.k (.b true)) (.ite (.op (.bin .eql) [(.op (.ld 1 false) [(.op (.fa 0 1) [(.op (.ix 19) [(.sl 0), (.sl 7)])])]), (.op (.ld 1 false) [(.op (.fa 0 1) [(.sl 3)])])]) (.op (.bin .neq) [(.op (.ld 1 false) [(.op (.fa 1 1) [(.op (.ix 19) [(.sl 0), (.sl 7)])])]), (.op (.ld 1 false) [(.op (.fa 1 1) [(.sl 3)])])]) (.k (.b false)))))])))
 (.q [(7, (.op (.bin .add) [(.sl 7), (.k (.i .i64 1))]))])))
def body14_2 : C :=
 (.seq (.seq (.q [(74, (.ite (.op (.bin .lss) [(.sl 9), (.op .len [(.sl 0)])]) (.op (.call true 27) [(.op (.ld 19 true) [(.op (.ix 19) [(.sl 0), (.sl 9)])]), (.op (.ld 19 true) [(.sl 3)])]) (.k (.b false))))])
 (.cond (.sl 74) .skip (.exit 2 [0, 3, 8, 9])))
 (.blk 3 (.seq (.s [.mv 75 (.t 8), .mv 76 (.t 0), .mv 77 (.t 9), .ix 78 19 (.t 76) (.t 77), .q 79 (.ld 19 true) [(.t 78)], .bsl 80 33 19 [(.t 79)], .app 81 33 19 240 (.t 75) (.t 80), .as 8 (.t 81)] [75, 76, 77, 78, 79, 80, 81])
 (.q [(9, (.op (.bin .add) [(.sl 9), (.k (.i .i64 1))]))]))))
def code14 : FCode := ⟨2, [.tmp 4, .tmp 5],
 (.seq (.s [.box 3 (.t 1), .as 4 (.c (.ow 33 [])), .as 5 (.c (.i .i64 0))] [])
 (.seq (.seq (.q [(12, (.op (.bin .neq) [(.op (.call false 11) [(.sl 0)]), (.k (.i .i64 0))]))])
 (.cond (.sl 12) (.seq (.s [.as 4 (.c (.ow 33 [])), .as 5 (.c (.i .i64 1))] [])
 (.ret [4, 5])) .skip))
 (.seq (.q [(6, (.k (.b false)))])
 (.seq (.seq (.q [(7, (.k (.i .i64 0)))])
 (.blk 0 (.loop [0, 3, 6, 7] body14_1)))
 (.seq (.seq (.q [(58, (.sl 6))])
 (.cond (.sl 58) (.seq (.s [.as 4 (.c (.ow 33 [])), .as 5 (.c (.i .i64 14))] [])
 (.ret [4, 5])) .skip))
 (.seq (.seq (.q [(61, (.op (.bin .geq) [(.op .len [(.sl 0)]), (.k (.i .i64 64))]))])
 (.cond (.sl 61) (.seq (.s [.as 4 (.c (.ow 33 [])), .as 5 (.c (.i .i64 5))] [])
 (.ret [4, 5])) .skip))
 (.seq (.s [.bsl 62 33 19 [], .as 8 (.t 62)] [62])
 (.seq (.q [(9, (.k (.i .i64 0)))])
 (.seq (.blk 2 (.loop [0, 3, 8, 9] body14_2))
 (.seq (.s [.mv 84 (.t 8), .q 85 (.ld 19 true) [(.t 3)], .bsl 86 33 19 [(.t 85)], .app 87 33 19 240 (.t 84) (.t 86), .as 8 (.t 87)] [84, 85, 86, 87])
 (.seq (.s [.mv 88 (.t 8), .mv 89 (.t 0), .mv 90 (.t 9), .slc 91 19 true false [(.t 89), (.t 90)], .app 92 33 19 240 (.t 88) (.t 91), .as 4 (.t 92), .as 5 (.c (.i .i64 0))] [88, 89, 90, 91, 92])
 (.ret [4, 5]))))))))))))⟩
theorem comp14 : compile Try.prog Try.f14 = some code14 := by kernel_rfl
theorem okf14 : okFn Try.prog 14 = true := by kernel_rfl
-- 15: corebank/corebankref17.SameAll
def body15_1 : C :=
 (.seq (.seq (.q [(14, (.op (.bin .lss) [(.sl 5), (.op .len [(.sl 0)])]))])
 (.cond (.sl 14) .skip (.exit 0 [])))
 (.seq (.blk 1 (.seq (.q [(26, (.op (.un .not) [(.op (.call true 20) [(.op (.ld 19 true) [(.op (.ix 19) [(.sl 0), (.sl 5)])]), (.op (.ld 19 true) [(.op (.ix 19) [(.sl 1), (.sl 5)])])])]))])
 (.cond (.sl 26) (.seq (.q [(4, (.k (.b false)))])
 (.ret [4])) .skip)))
 (.q [(5, (.op (.bin .add) [(.sl 5), (.k (.i .i64 1))]))])))
def code15 : FCode := ⟨2, [.tmp 4],
 (.seq (.q [(4, (.k (.b false)))])
 (.seq (.seq (.q [(10, (.op (.bin .neq) [(.op .len [(.sl 0)]), (.op .len [(.sl 1)])]))])
 (.cond (.sl 10) (.seq (.q [(4, (.k (.b false)))])
 (.ret [4])) .skip))
 (.seq (.seq (.q [(5, (.k (.i .i64 0)))])
 (.blk 0 (.loop [0, 1, 5] body15_1)))
 (.seq (.q [(4, (.k (.b true)))])
 (.ret [4])))))⟩
theorem comp15 : compile Try.prog Try.f15 = some code15 := by kernel_rfl
theorem okf15 : okFn Try.prog 15 = true := by kernel_rfl
-- 16: corebank/catalog.At
def body16_1 : C :=
 (.seq (.q [(14, (.op (.bin .lss) [(.sl 13), (.sl 12)]))])
 (.seq (.cond (.sl 14) .skip (.exit 0 [0, 6, 8]))
 (.seq (.blk 1 (.seq (.s [.mv 15 (.t 13), .ix 16 19 (.t 11) (.t 13), .q 17 (.ld 19 true) [(.t 16)], .alo 10 [(.s []), (.s []), (.s []), (.i .i64 0), (.i .i64 0), (.i .i64 0), (.i .i64 0), (.l []), (.b false), (.i .i64 0), (.i .i64 0), (.b false), (.l []), (.b false), (.i .i64 0), (.i .i64 0), (.b false), (.l []), (.l [])], .as 9 (.t 15), .sto 19 (.t 10) (.t 17)] [15, 16, 17])
 (.seq (.q [(41, (.ite (.ite (.op (.bin .eql) [(.op (.ld 1 false) [(.op (.fa 0 1) [(.sl 10)])]), (.sl 1)]) (.op (.bin .leq) [(.op (.ld 1 false) [(.op (.fa 3 1) [(.sl 10)])]), (.sl 2)]) (.k (.b false))) (.ite (.op (.bin .lss) [(.sl 8), (.k (.i .i64 0))]) (.k (.b true)) (.op (.bin .gtr) [(.op (.ld 1 false) [(.op (.fa 3 1) [(.sl 10)])]), (.op (.ld 1 false) [(.op (.fa 3 1) [(.op (.ix 19) [(.sl 0), (.sl 8)])])])])) (.k (.b false))))])
 (.cond (.sl 41) (.q [(8, (.sl 9))]) .skip))))
 (.q [(13, (.op (.bin .add) [(.sl 13), (.k (.i .i64 1))]))]))))
def code16 : FCode := ⟨3, [.cell 6 19 true, .tmp 7],
 (.seq (.s [.alo 6 [(.s []), (.s []), (.s []), (.i .i64 0), (.i .i64 0), (.i .i64 0), (.i .i64 0), (.l []), (.b false), (.i .i64 0), (.i .i64 0), (.b false), (.l []), (.b false), (.i .i64 0), (.i .i64 0), (.b false), (.l []), (.l [])], .as 7 (.c (.b false))] [])
 (.seq (.q [(8, (.k (.i .i64 (-1))))])
 (.seq (.seq (.s [.mv 11 (.t 0), .q 12 .len [(.t 11)], .mv 13 (.c (.i .i64 0))] [])
 (.blk 0 (.loop [0, 1, 2, 6, 8, 11, 12, 13] body16_1)))
 (.seq (.seq (.q [(45, (.op (.bin .lss) [(.sl 8), (.k (.i .i64 0))]))])
 (.cond (.sl 45) (.seq (.s [.bld 46 [(.s []), (.s []), (.s []), (.i .i64 0), (.i .i64 0), (.i .i64 0), (.i .i64 0), (.l []), (.b false), (.i .i64 0), (.i .i64 0), (.b false), (.l []), (.b false), (.i .i64 0), (.i .i64 0), (.b false), (.l []), (.l [])] [] [], .sto 19 (.t 6) (.t 46), .as 7 (.c (.b false))] [46])
 (.ret [6, 7])) .skip))
 (.seq (.s [.mv 47 (.t 0), .mv 48 (.t 8), .ix 49 19 (.t 47) (.t 48), .q 50 (.ld 19 true) [(.t 49)], .sto 19 (.t 6) (.t 50), .as 7 (.c (.b true))] [47, 48, 49, 50])
 (.ret [6, 7]))))))⟩
theorem comp16 : compile Try.prog Try.f16 = some code16 := by kernel_rfl
theorem okf16 : okFn Try.prog 16 = true := by kernel_rfl
-- 17: corebank/corebankref17.At
def body17_1 : C :=
 (.seq (.seq (.q [(13, (.op (.bin .lss) [(.sl 9), (.op .len [(.sl 0)])]))])
 (.cond (.sl 13) .skip (.exit 0 [0, 6, 8])))
 (.seq (.blk 1 (.seq (.q [(48, (.ite (.ite (.op (.bin .eql) [(.op (.ld 1 false) [(.op (.fa 0 1) [(.op (.ix 19) [(.sl 0), (.sl 9)])])]), (.sl 1)]) (.op (.bin .leq) [(.op (.ld 1 false) [(.op (.fa 3 1) [(.op (.ix 19) [(.sl 0), (.sl 9)])])]), (.sl 2)]) (.k (.b false))) (.ite (.op (.bin .lss) [(.sl 8), (.k (.i .i64 0))]) (.k (.b true)) (.op (.bin .gtr) [(.op (.ld 1 false) [(.op (.fa 3 1) [(.op (.ix 19) [(.sl 0), (.sl 9)])])]), (.op (.ld 1 false) [(.op (.fa 3 1) [(.op (.ix 19) [(.sl 0), (.sl 8)])])])])) (.k (.b false))))])
 (.cond (.sl 48) (.q [(8, (.sl 9))]) .skip)))
 (.q [(9, (.op (.bin .add) [(.sl 9), (.k (.i .i64 1))]))])))
def code17 : FCode := ⟨3, [.cell 6 19 true, .tmp 7],
 (.seq (.s [.alo 6 [(.s []), (.s []), (.s []), (.i .i64 0), (.i .i64 0), (.i .i64 0), (.i .i64 0), (.l []), (.b false), (.i .i64 0), (.i .i64 0), (.b false), (.l []), (.b false), (.i .i64 0), (.i .i64 0), (.b false), (.l []), (.l [])], .as 7 (.c (.b false))] [])
 (.seq (.q [(8, (.k (.i .i64 (-1))))])
 (.seq (.seq (.q [(9, (.k (.i .i64 0)))])
 (.blk 0 (.loop [0, 1, 2, 6, 8, 9] body17_1)))
 (.seq (.seq (.q [(51, (.op (.bin .lss) [(.sl 8), (.k (.i .i64 0))]))])
 (.cond (.sl 51) (.seq (.s [.bld 52 [(.s []), (.s []), (.s []), (.i .i64 0), (.i .i64 0), (.i .i64 0), (.i .i64 0), (.l []), (.b false), (.i .i64 0), (.i .i64 0), (.b false), (.l []), (.b false), (.i .i64 0), (.i .i64 0), (.b false), (.l []), (.l [])] [] [], .sto 19 (.t 6) (.t 52), .as 7 (.c (.b false))] [52])
 (.ret [6, 7])) .skip))
 (.seq (.s [.mv 53 (.t 0), .mv 54 (.t 8), .ix 55 19 (.t 53) (.t 54), .q 56 (.ld 19 true) [(.t 55)], .sto 19 (.t 6) (.t 56), .as 7 (.c (.b true))] [53, 54, 55, 56])
 (.ret [6, 7]))))))⟩
theorem comp17 : compile Try.prog Try.f17 = some code17 := by kernel_rfl
theorem okf17 : okFn Try.prog 17 = true := by kernel_rfl
-- 19: corebank/corebankref17.Names
def body19_1 : C :=
 (.seq (.seq (.q [(15, (.op (.bin .lss) [(.sl 5), (.op .len [(.sl 0)])]))])
 (.cond (.sl 15) .skip (.exit 2 [0, 3, 4])))
 (.seq (.blk 3 (.seq (.q [(51, (.ite (.ite (.op (.bin .eql) [(.op .len [(.sl 3)]), (.k (.i .i64 0))]) (.k (.b true)) (.op (.bin .gtr) [(.op (.ld 1 false) [(.op (.fa 0 1) [(.op (.ix 19) [(.sl 0), (.sl 5)])])]), (.op (.ld 1 false) [(.op (.ix 1) [(.sl 3), (.op (.bin .sub) [(.op .len [(.sl 3)]), (.k (.i .i64 1))])])])])) (.ite (.op (.bin .lss) [(.sl 4), (.k (.i .i64 0))]) (.k (.b true)) (.op (.bin .lss) [(.op (.ld 1 false) [(.op (.fa 0 1) [(.op (.ix 19) [(.sl 0), (.sl 5)])])]), (.op (.ld 1 false) [(.op (.fa 0 1) [(.op (.ix 19) [(.sl 0), (.sl 4)])])])])) (.k (.b false))))])
 (.cond (.sl 51) (.q [(4, (.sl 5))]) .skip)))
 (.q [(5, (.op (.bin .add) [(.sl 5), (.k (.i .i64 1))]))])))
def body19_2 : C :=
 (.seq (.seq (.q [(11, (.op (.bin .leq) [(.op .len [(.sl 3)]), (.op .len [(.sl 0)])]))])
 (.cond (.sl 11) .skip (.exit 0 [3])))
 (.blk 1 (.seq (.q [(4, (.k (.i .i64 (-1))))])
 (.seq (.seq (.q [(5, (.k (.i .i64 0)))])
 (.blk 2 (.loop [0, 3, 4, 5] body19_1)))
 (.seq (.seq (.q [(54, (.op (.bin .lss) [(.sl 4), (.k (.i .i64 0))]))])
 (.cond (.sl 54) (.seq (.s [.mv 55 (.t 3), .as 2 (.t 55)] [55])
 (.ret [2])) .skip))
 (.s [.mv 56 (.t 3), .mv 57 (.t 0), .mv 58 (.t 4), .ix 59 19 (.t 57) (.t 58), .fa 60 0 1 (.t 59), .q 61 (.ld 1 false) [(.t 60)], .bsl 62 9 1 [(.t 61)], .app 63 9 1 16 (.t 56) (.t 62), .as 3 (.t 63)] [56, 57, 58, 59, 60, 61, 62, 63]))))))
def code19 : FCode := ⟨1, [.tmp 2],
 (.seq (.s [.as 2 (.c (.ow 9 []))] [])
 (.seq (.s [.bsl 6 9 1 [], .as 3 (.t 6)] [6])
 (.seq (.blk 0 (.loop [0, 3] body19_2))
 (.seq (.s [.mv 64 (.t 3), .as 2 (.t 64)] [64])
 (.ret [2])))))⟩
theorem comp19 : compile Try.prog Try.f19 = some code19 := by kernel_rfl
theorem okf19 : okFn Try.prog 19 = true := by kernel_rfl
-- 20: corebank/corebankref15.Same
def body20_1 : C :=
 (.seq (.seq (.q [(88, (.op (.bin .lss) [(.sl 5), (.op .len [(.op (.ld 1 false) [(.op (.fa 18 1) [(.sl 2)])])])]))])
 (.cond (.sl 88) .skip (.exit 0 [])))
 (.seq (.blk 1 (.seq (.q [(134, (.ite (.ite (.op (.bin .neq) [(.op (.ld 1 false) [(.op (.fa 0 1) [(.op (.ix 6) [(.op (.ld 1 false) [(.op (.fa 18 1) [(.sl 2)])]), (.sl 5)])])]), (.op (.ld 1 false) [(.op (.fa 0 1) [(.op (.ix 6) [(.op (.ld 1 false) [(.op (.fa 18 1) [(.sl 3)])]), (.sl 5)])])])]) (.k (.b true)) (.op (.bin .neq) [(.op (.ld 1 false) [(.op (.fa 1 1) [(.op (.ix 6) [(.op (.ld 1 false) [(.op (.fa 18 1) [(.sl 2)])]), (.sl 5)])])]), (.op (.ld 1 false) [(.op (.fa 1 1) [(.op (.ix 6) [(.op (.ld 1 false) [(.op (.fa 18 1) [(.sl 3)])]), (.sl 5)])])])])) (.k (.b true)) (.op (.un .not) [(.op (.call true 34) [(.op (.ld 4 true) [(.op (.fa 2 4) [(.op (.ix 6) [(.op (.ld 1 false) [(.op (.fa 18 1) [(.sl 2)])]), (.sl 5)])])]), (.op (.ld 4 true) [(.op (.fa 2 4) [(.op (.ix 6) [(.op (.ld 1 false) [(.op (.fa 18 1) [(.sl 3)])]), (.sl 5)])])])])])))])
 (.cond (.sl 134) (.seq (.q [(4, (.k (.b false)))])
 (.ret [4])) .skip)))
 (.q [(5, (.op (.bin .add) [(.sl 5), (.k (.i .i64 1))]))])))
def code20 : FCode := ⟨2, [.tmp 4],
 (.seq (.s [.box 2 (.t 0), .box 3 (.t 1), .as 4 (.c (.b false))] [])
 (.seq (.seq (.q [(52, (.ite (.ite (.ite (.ite (.ite (.ite (.op (.bin .neq) [(.op (.ld 1 false) [(.op (.fa 0 1) [(.sl 2)])]), (.op (.ld 1 false) [(.op (.fa 0 1) [(.sl 3)])])]) (.k (.b true)) (.op (.bin .neq) [(.op (.ld 1 false) [(.op (.fa 1 1) [(.sl 2)])]), (.op (.ld 1 false) [(.op (.fa 1 1) [(.sl 3)])])])) (.k (.b true)) (.op (.bin .neq) [(.op (.ld 1 false) [(.op (.fa 2 1) [(.sl 2)])]), (.op (.ld 1 false) [(.op (.fa 2 1) [(.sl 3)])])])) (.k (.b true)) (.op (.bin .neq) [(.op (.ld 1 false) [(.op (.fa 3 1) [(.sl 2)])]), (.op (.ld 1 false) [(.op (.fa 3 1) [(.sl 3)])])])) (.k (.b true)) (.op (.bin .neq) [(.op (.ld 1 false) [(.op (.fa 4 1) [(.sl 2)])]), (.op (.ld 1 false) [(.op (.fa 4 1) [(.sl 3)])])])) (.k (.b true)) (.op (.bin .neq) [(.op (.ld 1 false) [(.op (.fa 5 1) [(.sl 2)])]), (.op (.ld 1 false) [(.op (.fa 5 1) [(.sl 3)])])])) (.k (.b true)) (.op (.bin .neq) [(.op (.ld 1 false) [(.op (.fa 6 1) [(.sl 2)])]), (.op (.ld 1 false) [(.op (.fa 6 1) [(.sl 3)])])])))])
 (.cond (.sl 52) (.seq (.q [(4, (.k (.b false)))])
 (.ret [4])) .skip))
 (.seq (.seq (.q [(83, (.ite (.ite (.ite (.op (.un .not) [(.op (.call false 32) [(.op (.ld 5 true) [(.op (.fa 7 5) [(.sl 2)])]), (.op (.ld 5 true) [(.op (.fa 7 5) [(.sl 3)])])])]) (.k (.b true)) (.op (.un .not) [(.op (.call false 32) [(.op (.ld 5 true) [(.op (.fa 12 5) [(.sl 2)])]), (.op (.ld 5 true) [(.op (.fa 12 5) [(.sl 3)])])])])) (.k (.b true)) (.op (.un .not) [(.op (.call false 33) [(.op (.ld 1 false) [(.op (.fa 17 1) [(.sl 2)])]), (.op (.ld 1 false) [(.op (.fa 17 1) [(.sl 3)])])])])) (.k (.b true)) (.op (.bin .neq) [(.op .len [(.op (.ld 1 false) [(.op (.fa 18 1) [(.sl 2)])])]), (.op .len [(.op (.ld 1 false) [(.op (.fa 18 1) [(.sl 3)])])])])))])
 (.cond (.sl 83) (.seq (.q [(4, (.k (.b false)))])
 (.ret [4])) .skip))
 (.seq (.seq (.q [(5, (.k (.i .i64 0)))])
 (.blk 0 (.loop [2, 3, 5] body20_1)))
 (.seq (.q [(4, (.k (.b true)))])
 (.ret [4]))))))⟩
theorem comp20 : compile Try.prog Try.f20 = some code20 := by kernel_rfl
theorem okf20 : okFn Try.prog 20 = true := by kernel_rfl
-- 21: corebank/catalog.Versions
def body21_1 : C :=
 (.seq (.q [(11, (.op (.bin .lss) [(.sl 10), (.sl 9)]))])
 (.seq (.cond (.sl 11) .skip (.exit 0 [5]))
 (.seq (.blk 1 (.seq (.s [.ix 12 19 (.t 8) (.t 10), .q 13 (.ld 19 true) [(.t 12)], .alo 7 [(.s []), (.s []), (.s []), (.i .i64 0), (.i .i64 0), (.i .i64 0), (.i .i64 0), (.l []), (.b false), (.i .i64 0), (.i .i64 0), (.b false), (.l []), (.b false), (.i .i64 0), (.i .i64 0), (.b false), (.l []), (.l [])], .sto 19 (.t 7) (.t 13)] [12, 13])
 (.seq (.q [(17, (.op (.bin .eql) [(.op (.ld 1 false) [(.op (.fa 0 1) [(.sl 7)])]), (.sl 1)]))])
 (.cond (.sl 17) (.s [.mv 18 (.t 5), .q 19 (.ld 19 true) [(.t 7)], .bsl 20 33 19 [(.t 19)], .app 21 33 19 240 (.t 18) (.t 20), .as 5 (.t 21)] [18, 19, 20, 21]) .skip))))
 (.q [(10, (.op (.bin .add) [(.sl 10), (.k (.i .i64 1))]))]))))
def code21 : FCode := ⟨2, [.tmp 4],
 (.seq (.s [.as 4 (.c (.ow 33 []))] [])
 (.seq (.s [.as 5 (.c (.ow 33 []))] [])
 (.seq (.seq (.s [.mv 8 (.t 0), .q 9 .len [(.t 8)], .mv 10 (.c (.i .i64 0))] [])
 (.blk 0 (.loop [1, 5, 8, 9, 10] body21_1)))
 (.seq (.s [.mv 23 (.t 5), .as 4 (.t 23)] [23])
 (.ret [4])))))⟩
theorem comp21 : compile Try.prog Try.f21 = some code21 := by kernel_rfl
theorem okf21 : okFn Try.prog 21 = true := by kernel_rfl
-- 22: corebank/corebankref17.Versions
def body22_1 : C :=
 (.seq (.seq (.q [(11, (.op (.bin .lss) [(.sl 6), (.op .len [(.sl 0)])]))])
 (.cond (.sl 11) .skip (.exit 0 [5])))
 (.seq (.blk 1 (.seq (.q [(20, (.op (.bin .eql) [(.op (.ld 1 false) [(.op (.fa 0 1) [(.op (.ix 19) [(.sl 0), (.sl 6)])])]), (.sl 1)]))])
 (.cond (.sl 20) (.s [.mv 21 (.t 5), .mv 22 (.t 0), .mv 23 (.t 6), .ix 24 19 (.t 22) (.t 23), .q 25 (.ld 19 true) [(.t 24)], .bsl 26 33 19 [(.t 25)], .app 27 33 19 240 (.t 21) (.t 26), .as 5 (.t 27)] [21, 22, 23, 24, 25, 26, 27]) .skip)))
 (.q [(6, (.op (.bin .add) [(.sl 6), (.k (.i .i64 1))]))])))
def code22 : FCode := ⟨2, [.tmp 4],
 (.seq (.s [.as 4 (.c (.ow 33 []))] [])
 (.seq (.s [.bsl 7 33 19 [], .as 5 (.t 7)] [7])
 (.seq (.seq (.q [(6, (.k (.i .i64 0)))])
 (.blk 0 (.loop [0, 1, 5, 6] body22_1)))
 (.seq (.s [.mv 28 (.t 5), .as 4 (.t 28)] [28])
 (.ret [4])))))⟩
theorem comp22 : compile Try.prog Try.f22 = some code22 := by kernel_rfl
theorem okf22 : okFn Try.prog 22 = true := by kernel_rfl
-- 23: corebank/corebankref05.Ints
def body23_1 : C :=
 (.seq (.seq (.q [(14, (.op (.bin .lss) [(.sl 5), (.op .len [(.sl 0)])]))])
 (.cond (.sl 14) .skip (.exit 0 [])))
 (.seq (.blk 1 (.seq (.q [(25, (.op (.bin .neq) [(.op (.ld 1 false) [(.op (.ix 1) [(.sl 0), (.sl 5)])]), (.op (.ld 1 false) [(.op (.ix 1) [(.sl 1), (.sl 5)])])]))])
 (.cond (.sl 25) (.seq (.q [(4, (.k (.b false)))])
 (.ret [4])) .skip)))
 (.q [(5, (.op (.bin .add) [(.sl 5), (.k (.i .i64 1))]))])))
def code23 : FCode := ⟨2, [.tmp 4],
 (.seq (.q [(4, (.k (.b false)))])
 (.seq (.seq (.q [(10, (.op (.bin .neq) [(.op .len [(.sl 0)]), (.op .len [(.sl 1)])]))])
 (.cond (.sl 10) (.seq (.q [(4, (.k (.b false)))])
 (.ret [4])) .skip))
 (.seq (.seq (.q [(5, (.k (.i .i64 0)))])
 (.blk 0 (.loop [0, 1, 5] body23_1)))
 (.seq (.q [(4, (.k (.b true)))])
 (.ret [4])))))⟩
theorem comp23 : compile Try.prog Try.f23 = some code23 := by kernel_rfl
theorem okf23 : okFn Try.prog 23 = true := by kernel_rfl
-- 24: corebank/catalog.Changes
def body24_1 : C :=
 (.seq (.q [(17, (.op (.bin .lss) [(.sl 16), (.sl 15)]))])
 (.seq (.cond (.sl 17) .skip (.exit 0 [9]))
 (.seq (.blk 1 (.seq (.s [.ix 18 19 (.t 14) (.t 16), .q 19 (.ld 19 true) [(.t 18)], .alo 11 [(.s []), (.s []), (.s []), (.i .i64 0), (.i .i64 0), (.i .i64 0), (.i .i64 0), (.l []), (.b false), (.i .i64 0), (.i .i64 0), (.b false), (.l []), (.b false), (.i .i64 0), (.i .i64 0), (.b false), (.l []), (.l [])], .sto 19 (.t 11) (.t 19)] [18, 19])
 (.seq (.q [(29, (.ite (.op (.bin .geq) [(.op (.ld 1 false) [(.op (.fa 3 1) [(.sl 11)])]), (.sl 2)]) (.op (.bin .leq) [(.op (.ld 1 false) [(.op (.fa 3 1) [(.sl 11)])]), (.sl 3)]) (.k (.b false))))])
 (.cond (.sl 29) (.s [.mv 30 (.t 9), .fa 31 3 1 (.t 11), .q 32 (.ld 1 false) [(.t 31)], .bsl 33 3 1 [(.t 32)], .app 34 3 1 8 (.t 30) (.t 33), .as 9 (.t 34)] [30, 31, 32, 33, 34]) .skip))))
 (.q [(16, (.op (.bin .add) [(.sl 16), (.k (.i .i64 1))]))]))))
def code24 : FCode := ⟨4, [.tmp 8],
 (.seq (.s [.as 8 (.c (.ow 3 []))] [])
 (.seq (.s [.as 9 (.c (.ow 3 []))] [])
 (.seq (.seq (.s [.mv 12 (.t 0), .mv 13 (.t 1), .call (some 14) 21 [(.t 12), (.t 13)], .q 15 .len [(.t 14)], .mv 16 (.c (.i .i64 0))] [12, 13])
 (.blk 0 (.loop [2, 3, 9, 14, 15, 16] body24_1)))
 (.seq (.s [.mv 36 (.t 9), .callm (some 37) 35 (mutOf 35) (.t 36) []] [36, 37])
 (.seq (.s [.mv 38 (.t 9), .callm (some 39) 36 (mutOf 36) (.t 38) [], .as 8 (.t 39)] [38, 39])
 (.ret [8]))))))⟩
theorem comp24 : compile Try.prog Try.f24 = some code24 := by kernel_rfl
theorem okf24 : okFn Try.prog 24 = true := by kernel_rfl
-- 25: corebank/corebankref17.Changes
def body25_1 : C :=
 (.seq (.seq (.q [(15, (.op (.bin .lss) [(.sl 10), (.op .len [(.sl 0)])]))])
 (.cond (.sl 15) .skip (.exit 0 [9])))
 (.seq (.blk 1 (.seq (.q [(42, (.ite (.ite (.op (.bin .eql) [(.op (.ld 1 false) [(.op (.fa 0 1) [(.op (.ix 19) [(.sl 0), (.sl 10)])])]), (.sl 1)]) (.op (.bin .geq) [(.op (.ld 1 false) [(.op (.fa 3 1) [(.op (.ix 19) [(.sl 0), (.sl 10)])])]), (.sl 2)]) (.k (.b false))) (.op (.bin .leq) [(.op (.ld 1 false) [(.op (.fa 3 1) [(.op (.ix 19) [(.sl 0), (.sl 10)])])]), (.sl 3)]) (.k (.b false))))])
 (.cond (.sl 42) (.s [.mv 43 (.t 9), .mv 44 (.t 0), .mv 45 (.t 10), .ix 46 19 (.t 44) (.t 45), .fa 47 3 1 (.t 46), .q 48 (.ld 1 false) [(.t 47)], .bsl 49 3 1 [(.t 48)], .app 50 3 1 8 (.t 43) (.t 49), .as 9 (.t 50)] [43, 44, 45, 46, 47, 48, 49, 50]) .skip)))
 (.q [(10, (.op (.bin .add) [(.sl 10), (.k (.i .i64 1))]))])))
def code25 : FCode := ⟨4, [.tmp 8],
 (.seq (.s [.as 8 (.c (.ow 3 []))] [])
 (.seq (.s [.bsl 11 3 1 [], .as 9 (.t 11)] [11])
 (.seq (.seq (.q [(10, (.k (.i .i64 0)))])
 (.blk 0 (.loop [0, 1, 2, 3, 9, 10] body25_1)))
 (.seq (.s [.mv 51 (.t 9), .bld 52 [(.s []), (.l []), (.l [])] [(2, 1)] [(.t 51)], .bld 53 [(.s []), (.l []), (.l [])] [] [], .call (some 54) 37 [(.t 52), (.t 53)], .q 55 (.fld 2 1 false) [(.t 54)], .as 8 (.t 55)] [51, 52, 53, 54, 55])
 (.ret [8])))))⟩
theorem comp25 : compile Try.prog Try.f25 = some code25 := by kernel_rfl
theorem okf25 : okFn Try.prog 25 = true := by kernel_rfl
-- 26: corebank/catalog.compare
def code26 : FCode := ⟨2, [.tmp 4],
 (.seq (.s [.box 2 (.t 0), .box 3 (.t 1), .as 4 (.c (.i .i64 0))] [])
 (.seq (.seq (.q [(5, (.op (.call false 38) [(.op (.ld 1 false) [(.op (.fa 0 1) [(.sl 2)])]), (.op (.ld 1 false) [(.op (.fa 0 1) [(.sl 3)])])]))])
 (.seq (.q [(12, (.op (.bin .neq) [(.sl 5), (.k (.i .i64 0))]))])
 (.cond (.sl 12) (.seq (.q [(4, (.sl 5))])
 (.ret [4])) .skip)))
 (.seq (.q [(4, (.op (.call false 39) [(.op (.ld 1 false) [(.op (.fa 3 1) [(.sl 2)])]), (.op (.ld 1 false) [(.op (.fa 3 1) [(.sl 3)])])]))])
 (.ret [4]))))⟩
theorem comp26 : compile Try.prog Try.f26 = some code26 := by kernel_rfl
theorem okf26 : okFn Try.prog 26 = true := by kernel_rfl
-- 27: corebank/corebankref17.before
def code27 : FCode := ⟨2, [.tmp 4],
 (.seq (.s [.box 2 (.t 0), .box 3 (.t 1), .as 4 (.c (.b false))] [])
 (.seq (.q [(4, (.ite (.op (.bin .lss) [(.op (.ld 1 false) [(.op (.fa 0 1) [(.sl 2)])]), (.op (.ld 1 false) [(.op (.fa 0 1) [(.sl 3)])])]) (.k (.b true)) (.ite (.op (.bin .eql) [(.op (.ld 1 false) [(.op (.fa 0 1) [(.sl 2)])]), (.op (.ld 1 false) [(.op (.fa 0 1) [(.sl 3)])])]) (.op (.bin .lss) [(.op (.ld 1 false) [(.op (.fa 3 1) [(.sl 2)])]), (.op (.ld 1 false) [(.op (.fa 3 1) [(.sl 3)])])]) (.k (.b false)))))])
 (.ret [4])))⟩
theorem comp27 : compile Try.prog Try.f27 = some code27 := by kernel_rfl
theorem okf27 : okFn Try.prog 27 = true := by kernel_rfl
-- 28: slices.BinarySearchFunc[[]corebank/api.Product,corebank/api.Product,corebank/api.Product]
def body28_1 : C :=
 (.seq (.seq (.q [(17, (.op (.bin .lss) [(.sl 9), (.sl 10)]))])
 (.cond (.sl 17) .skip (.exit 0 [0, 2, 4, 8, 9])))
 (.blk 1 (.seq (.q [(11, (.op (.cnv .i64) [(.op (.bin .shr) [(.op (.cnv .u64) [(.op (.bin .add) [(.sl 9), (.sl 10)])]), (.k (.i .u64 1))])]))])
 (.seq (.q [(31, (.op (.bin .lss) [(.op (.callv true) [(.sl 2), (.op (.ld 19 true) [(.op (.ix 19) [(.sl 0), (.sl 11)])]), (.op (.ld 19 true) [(.sl 4)])]), (.k (.i .i64 0))]))])
 (.cond (.sl 31) (.q [(9, (.op (.bin .add) [(.sl 11), (.k (.i .i64 1))]))]) (.q [(10, (.sl 11))]))))))
def code28 : FCode := ⟨3, [.tmp 6, .tmp 7],
 (.seq (.s [.box 4 (.t 1), .as 6 (.c (.i .i64 0)), .as 7 (.c (.b false))] [])
 (.seq (.q [(8, (.op .len [(.sl 0)]))])
 (.seq (.q [(9, (.k (.i .i64 0))), (10, (.sl 8))])
 (.seq (.blk 0 (.loop [0, 2, 4, 8, 9, 10] body28_1))
 (.seq (.q [(6, (.sl 9)), (7, (.ite (.op (.bin .lss) [(.sl 9), (.sl 8)]) (.op (.bin .eql) [(.op (.callv true) [(.sl 2), (.op (.ld 19 true) [(.op (.ix 19) [(.sl 0), (.sl 9)])]), (.op (.ld 19 true) [(.sl 4)])]), (.k (.i .i64 0))]) (.k (.b false))))])
 (.ret [6, 7]))))))⟩
theorem comp28 : compile Try.prog Try.f28 = some code28 := by kernel_rfl
theorem okf28 : okFn Try.prog 28 = true := by kernel_rfl
-- 32: corebank/corebankref15.SameInterest
def body32_1 : C :=
 (.seq (.seq (.q [(45, (.op (.bin .lss) [(.sl 5), (.op .len [(.op (.ld 1 false) [(.op (.fa 0 1) [(.sl 2)])])])]))])
 (.cond (.sl 45) .skip (.exit 0 [])))
 (.seq (.blk 1 (.seq (.q [(58, (.op (.eqa true [1, 1]) [(.op (.ld 2 true) [(.op (.ix 2) [(.op (.ld 1 false) [(.op (.fa 0 1) [(.sl 2)])]), (.sl 5)])]), (.op (.ld 2 true) [(.op (.ix 2) [(.op (.ld 1 false) [(.op (.fa 0 1) [(.sl 3)])]), (.sl 5)])])]))])
 (.cond (.sl 58) (.seq (.q [(4, (.k (.b false)))])
 (.ret [4])) .skip)))
 (.q [(5, (.op (.bin .add) [(.sl 5), (.k (.i .i64 1))]))])))
def code32 : FCode := ⟨2, [.tmp 4],
 (.seq (.s [.box 2 (.t 0), .box 3 (.t 1), .as 4 (.c (.b false))] [])
 (.seq (.seq (.q [(40, (.ite (.ite (.ite (.ite (.op (.bin .neq) [(.op .len [(.op (.ld 1 false) [(.op (.fa 0 1) [(.sl 2)])])]), (.op .len [(.op (.ld 1 false) [(.op (.fa 0 1) [(.sl 3)])])])]) (.k (.b true)) (.op (.binb .neq) [(.op (.ld 1 false) [(.op (.fa 1 1) [(.sl 2)])]), (.op (.ld 1 false) [(.op (.fa 1 1) [(.sl 3)])])])) (.k (.b true)) (.op (.bin .neq) [(.op (.ld 1 false) [(.op (.fa 2 1) [(.sl 2)])]), (.op (.ld 1 false) [(.op (.fa 2 1) [(.sl 3)])])])) (.k (.b true)) (.op (.bin .neq) [(.op (.ld 1 false) [(.op (.fa 3 1) [(.sl 2)])]), (.op (.ld 1 false) [(.op (.fa 3 1) [(.sl 3)])])])) (.k (.b true)) (.op (.binb .neq) [(.op (.ld 1 false) [(.op (.fa 4 1) [(.sl 2)])]), (.op (.ld 1 false) [(.op (.fa 4 1) [(.sl 3)])])])))])
 (.cond (.sl 40) (.seq (.q [(4, (.k (.b false)))])
 (.ret [4])) .skip))
 (.seq (.seq (.q [(5, (.k (.i .i64 0)))])
 (.blk 0 (.loop [2, 3, 5] body32_1)))
 (.seq (.q [(4, (.k (.b true)))])
 (.ret [4])))))⟩
theorem comp32 : compile Try.prog Try.f32 = some code32 := by kernel_rfl
theorem okf32 : okFn Try.prog 32 = true := by kernel_rfl
-- 33: corebank/corebankref15.SameFees
def body33_1 : C :=
 (.seq (.seq (.q [(14, (.op (.bin .lss) [(.sl 5), (.op .len [(.sl 0)])]))])
 (.cond (.sl 14) .skip (.exit 0 [])))
 (.seq (.blk 1 (.seq (.q [(68, (.ite (.ite (.ite (.op (.bin .neq) [(.op (.ld 1 false) [(.op (.fa 0 1) [(.op (.ix 10) [(.sl 0), (.sl 5)])])]), (.op (.ld 1 false) [(.op (.fa 0 1) [(.op (.ix 10) [(.sl 1), (.sl 5)])])])]) (.k (.b true)) (.op (.bin .neq) [(.op (.ld 1 false) [(.op (.fa 1 1) [(.op (.ix 10) [(.sl 0), (.sl 5)])])]), (.op (.ld 1 false) [(.op (.fa 1 1) [(.op (.ix 10) [(.sl 1), (.sl 5)])])])])) (.k (.b true)) (.op (.un .not) [(.op (.call true 34) [(.op (.ld 4 true) [(.op (.fa 2 4) [(.op (.ix 10) [(.sl 0), (.sl 5)])])]), (.op (.ld 4 true) [(.op (.fa 2 4) [(.op (.ix 10) [(.sl 1), (.sl 5)])])])])])) (.k (.b true)) (.op (.un .not) [(.op (.call true 34) [(.op (.ld 4 true) [(.op (.fa 6 4) [(.op (.ix 10) [(.sl 0), (.sl 5)])])]), (.op (.ld 4 true) [(.op (.fa 6 4) [(.op (.ix 10) [(.sl 1), (.sl 5)])])])])])))])
 (.cond (.sl 68) (.seq (.q [(4, (.k (.b false)))])
 (.ret [4])) .skip)))
 (.q [(5, (.op (.bin .add) [(.sl 5), (.k (.i .i64 1))]))])))
def code33 : FCode := ⟨2, [.tmp 4],
 (.seq (.q [(4, (.k (.b false)))])
 (.seq (.seq (.q [(10, (.op (.bin .neq) [(.op .len [(.sl 0)]), (.op .len [(.sl 1)])]))])
 (.cond (.sl 10) (.seq (.q [(4, (.k (.b false)))])
 (.ret [4])) .skip))
 (.seq (.seq (.q [(5, (.k (.i .i64 0)))])
 (.blk 0 (.loop [0, 1, 5] body33_1)))
 (.seq (.q [(4, (.k (.b true)))])
 (.ret [4])))))⟩
theorem comp33 : compile Try.prog Try.f33 = some code33 := by kernel_rfl
theorem okf33 : okFn Try.prog 33 = true := by kernel_rfl
-- 34: corebank/corebankref10.Same
def body34_1 : C :=
 (.seq (.seq (.q [(38, (.op (.bin .lss) [(.sl 5), (.op .len [(.op (.ld 1 false) [(.op (.fa 3 1) [(.sl 2)])])])]))])
 (.cond (.sl 38) .skip (.exit 0 [])))
 (.seq (.blk 1 (.seq (.q [(52, (.op (.un .not) [(.op (.call true 34) [(.op (.ld 4 true) [(.op (.ix 4) [(.op (.ld 1 false) [(.op (.fa 3 1) [(.sl 2)])]), (.sl 5)])]), (.op (.ld 4 true) [(.op (.ix 4) [(.op (.ld 1 false) [(.op (.fa 3 1) [(.sl 3)])]), (.sl 5)])])])]))])
 (.cond (.sl 52) (.seq (.q [(4, (.k (.b false)))])
 (.ret [4])) .skip)))
 (.q [(5, (.op (.bin .add) [(.sl 5), (.k (.i .i64 1))]))])))
def code34 : FCode := ⟨2, [.tmp 4],
 (.seq (.s [.box 2 (.t 0), .box 3 (.t 1), .as 4 (.c (.b false))] [])
 (.seq (.seq (.q [(33, (.ite (.ite (.ite (.op (.bin .neq) [(.op (.ld 1 false) [(.op (.fa 0 1) [(.sl 2)])]), (.op (.ld 1 false) [(.op (.fa 0 1) [(.sl 3)])])]) (.k (.b true)) (.op (.bin .neq) [(.op (.ld 1 false) [(.op (.fa 1 1) [(.sl 2)])]), (.op (.ld 1 false) [(.op (.fa 1 1) [(.sl 3)])])])) (.k (.b true)) (.op (.bin .neq) [(.op (.ld 1 false) [(.op (.fa 2 1) [(.sl 2)])]), (.op (.ld 1 false) [(.op (.fa 2 1) [(.sl 3)])])])) (.k (.b true)) (.op (.bin .neq) [(.op .len [(.op (.ld 1 false) [(.op (.fa 3 1) [(.sl 2)])])]), (.op .len [(.op (.ld 1 false) [(.op (.fa 3 1) [(.sl 3)])])])])))])
 (.cond (.sl 33) (.seq (.q [(4, (.k (.b false)))])
 (.ret [4])) .skip))
 (.seq (.seq (.q [(5, (.k (.i .i64 0)))])
 (.blk 0 (.loop [2, 3, 5] body34_1)))
 (.seq (.q [(4, (.k (.b true)))])
 (.ret [4])))))⟩
theorem comp34 : compile Try.prog Try.f34 = some code34 := by kernel_rfl
theorem okf34 : okFn Try.prog 34 = true := by kernel_rfl
-- 37: corebank/corebankref05.Join
def code37 : FCode := ⟨2, [.cell 4 3 true],
 (.seq (.s [.box 2 (.t 0), .box 3 (.t 1), .alo 4 [(.s []), (.l []), (.l [])]] [])
 (.seq (.d [.fa 5 0 1 (.t 2), .q 6 (.ld 1 false) [(.t 5)], .fa 7 1 1 (.t 2), .q 8 (.ld 1 false) [(.t 7)], .fa 9 1 1 (.t 3), .q 10 (.ld 1 false) [(.t 9)], .call (some 11) 45 [(.t 8), (.t 10)], .fa 12 2 1 (.t 2), .q 13 (.ld 1 false) [(.t 12)], .fa 14 2 1 (.t 3), .q 15 (.ld 1 false) [(.t 14)], .call (some 16) 45 [(.t 13), (.t 15)], .bld 17 [(.s []), (.l []), (.l [])] [(0, 1), (1, 1), (2, 1)] [(.t 6), (.t 11), (.t 16)], .sto 3 (.t 4) (.t 17)] [[], [0], [], [2], [], [4], [3, 5], [], [7], [], [9], [8, 10, 6], [1, 6, 11], [12, 11, 0, 1, 2, 3, 4, 5, 6, 7, 8, 9, 10, 11, 12]] [5, 6, 7, 8, 9, 10, 11, 12, 13, 14, 15, 16, 17])
 (.ret [4])))⟩
theorem comp37 : compile Try.prog Try.f37 = some code37 := by kernel_rfl
theorem okf37 : okFn Try.prog 37 = true := by kernel_rfl
-- 38: cmp.Compare[string]
def code38 : FCode := ⟨2, [.tmp 4],
 (.seq (.q [(4, (.k (.i .i64 0)))])
 (.seq (.q [(5, (.op (.call false 46) [(.sl 0)]))])
 (.seq (.q [(6, (.op (.call false 46) [(.sl 1)]))])
 (.seq (.seq (.q [(11, (.sl 5))])
 (.cond (.sl 11) (.seq (.seq (.q [(12, (.sl 6))])
 (.cond (.sl 12) (.seq (.q [(4, (.k (.i .i64 0)))])
 (.ret [4])) .skip))
 (.seq (.q [(4, (.k (.i .i64 (-1))))])
 (.ret [4]))) .skip))
 (.seq (.seq (.q [(13, (.sl 6))])
 (.cond (.sl 13) (.seq (.q [(4, (.k (.i .i64 1)))])
 (.ret [4])) .skip))
 (.seq (.seq (.q [(16, (.op (.bin .lss) [(.sl 0), (.sl 1)]))])
 (.cond (.sl 16) (.seq (.q [(4, (.k (.i .i64 (-1))))])
 (.ret [4])) .skip))
 (.seq (.seq (.q [(19, (.op (.bin .gtr) [(.sl 0), (.sl 1)]))])
 (.cond (.sl 19) (.seq (.q [(4, (.k (.i .i64 1)))])
 (.ret [4])) .skip))
 (.seq (.q [(4, (.k (.i .i64 0)))])
 (.ret [4])))))))))⟩
theorem comp38 : compile Try.prog Try.f38 = some code38 := by kernel_rfl
theorem okf38 : okFn Try.prog 38 = true := by kernel_rfl
-- 39: cmp.Compare[int]
def code39 : FCode := ⟨2, [.tmp 4],
 (.seq (.q [(4, (.k (.i .i64 0)))])
 (.seq (.q [(5, (.op (.call false 47) [(.sl 0)]))])
 (.seq (.q [(6, (.op (.call false 47) [(.sl 1)]))])
 (.seq (.seq (.q [(11, (.sl 5))])
 (.cond (.sl 11) (.seq (.seq (.q [(12, (.sl 6))])
 (.cond (.sl 12) (.seq (.q [(4, (.k (.i .i64 0)))])
 (.ret [4])) .skip))
 (.seq (.q [(4, (.k (.i .i64 (-1))))])
 (.ret [4]))) .skip))
 (.seq (.seq (.q [(13, (.sl 6))])
 (.cond (.sl 13) (.seq (.q [(4, (.k (.i .i64 1)))])
 (.ret [4])) .skip))
 (.seq (.seq (.q [(16, (.op (.bin .lss) [(.sl 0), (.sl 1)]))])
 (.cond (.sl 16) (.seq (.q [(4, (.k (.i .i64 (-1))))])
 (.ret [4])) .skip))
 (.seq (.seq (.q [(19, (.op (.bin .gtr) [(.sl 0), (.sl 1)]))])
 (.cond (.sl 19) (.seq (.q [(4, (.k (.i .i64 1)))])
 (.ret [4])) .skip))
 (.seq (.q [(4, (.k (.i .i64 0)))])
 (.ret [4])))))))))⟩
theorem comp39 : compile Try.prog Try.f39 = some code39 := by kernel_rfl
theorem okf39 : okFn Try.prog 39 = true := by kernel_rfl
-- 45: corebank/corebankref05.join
def body45_1 : C :=
 (.seq (.seq (.q [(23, (.op (.bin .lss) [(.sl 8), (.op .len [(.sl 5)])]))])
 (.cond (.sl 23) .skip (.exit 2 [5, 6, 7])))
 (.seq (.blk 3 (.seq (.q [(56, (.ite (.ite (.op (.bin .eql) [(.op .len [(.sl 6)]), (.k (.i .i64 0))]) (.k (.b true)) (.op (.bin .gtr) [(.op (.ld 1 false) [(.op (.ix 1) [(.sl 5), (.sl 8)])]), (.op (.ld 1 false) [(.op (.ix 1) [(.sl 6), (.op (.bin .sub) [(.op .len [(.sl 6)]), (.k (.i .i64 1))])])])])) (.ite (.op (.bin .lss) [(.sl 7), (.k (.i .i64 0))]) (.k (.b true)) (.op (.bin .lss) [(.op (.ld 1 false) [(.op (.ix 1) [(.sl 5), (.sl 8)])]), (.op (.ld 1 false) [(.op (.ix 1) [(.sl 5), (.sl 7)])])])) (.k (.b false))))])
 (.cond (.sl 56) (.q [(7, (.sl 8))]) .skip)))
 (.q [(8, (.op (.bin .add) [(.sl 8), (.k (.i .i64 1))]))])))
def body45_2 : C :=
 (.seq (.seq (.q [(19, (.op (.bin .lss) [(.op .len [(.sl 6)]), (.op .len [(.sl 5)])]))])
 (.cond (.sl 19) .skip (.exit 0 [6])))
 (.blk 1 (.seq (.q [(7, (.k (.i .i64 (-1))))])
 (.seq (.seq (.q [(8, (.k (.i .i64 0)))])
 (.blk 2 (.loop [5, 6, 7, 8] body45_1)))
 (.seq (.seq (.q [(59, (.op (.bin .lss) [(.sl 7), (.k (.i .i64 0))]))])
 (.cond (.sl 59) (.seq (.s [.mv 60 (.t 6), .as 4 (.t 60)] [60])
 (.ret [4])) .skip))
 (.s [.mv 61 (.t 6), .mv 62 (.t 5), .mv 63 (.t 7), .ix 64 1 (.t 62) (.t 63), .q 65 (.ld 1 false) [(.t 64)], .bsl 66 3 1 [(.t 65)], .app 67 3 1 8 (.t 61) (.t 66), .as 6 (.t 67)] [61, 62, 63, 64, 65, 66, 67]))))))
def code45 : FCode := ⟨2, [.tmp 4],
 (.seq (.s [.as 4 (.c (.ow 3 []))] [])
 (.seq (.s [.bsl 9 3 1 [], .mv 10 (.t 0), .app 11 3 1 8 (.t 9) (.t 10), .mv 12 (.t 1), .app 13 3 1 8 (.t 11) (.t 12), .as 5 (.t 13)] [9, 10, 11, 12, 13])
 (.seq (.s [.bsl 14 3 1 [], .as 6 (.t 14)] [14])
 (.seq (.blk 0 (.loop [5, 6] body45_2))
 (.seq (.s [.mv 68 (.t 6), .as 4 (.t 68)] [68])
 (.ret [4]))))))⟩
theorem comp45 : compile Try.prog Try.f45 = some code45 := by kernel_rfl
theorem okf45 : okFn Try.prog 45 = true := by kernel_rfl
-- 46: cmp.isNaN[string]
def code46 : FCode := ⟨1, [.tmp 2],
 (.seq (.q [(2, (.k (.b false)))])
 (.seq (.q [(2, (.op (.bin .neq) [(.sl 0), (.sl 0)]))])
 (.ret [2])))⟩
theorem comp46 : compile Try.prog Try.f46 = some code46 := by kernel_rfl
theorem okf46 : okFn Try.prog 46 = true := by kernel_rfl
-- 47: cmp.isNaN[int]
def code47 : FCode := ⟨1, [.tmp 2],
 (.seq (.q [(2, (.k (.b false)))])
 (.seq (.q [(2, (.op (.bin .neq) [(.sl 0), (.sl 0)]))])
 (.ret [2])))⟩
theorem comp47 : compile Try.prog Try.f47 = some code47 := by kernel_rfl
theorem okf47 : okFn Try.prog 47 = true := by kernel_rfl
/-- All of them. -/
def codes : List (Nat × FCode) := [(2, code2), (3, code3), (4, code4), (5, code5), (6, code6), (7, code7), (8, code8), (9, code9), (10, code10), (11, code11), (12, code12), (13, code13), (14, code14), (15, code15), (16, code16), (17, code17), (19, code19), (20, code20), (21, code21), (22, code22), (23, code23), (24, code24), (25, code25), (26, code26), (27, code27), (28, code28), (32, code32), (33, code33), (34, code34), (37, code37), (38, code38), (39, code39), (45, code45), (46, code46), (47, code47)]
def tab : Nat → Option FCode := tabOf codes
theorem codes_ok : ∀ p ∈ codes, ∃ fn, Try.prog.funcs[p.1]? = some fn ∧ compile Try.prog fn = some p.2 ∧ okFn Try.prog p.1 = true := by
  unfold codes
  simp only [List.forall_mem_cons]
  exact ⟨⟨_, Try.func2, comp2, okf2⟩, ⟨_, Try.func3, comp3, okf3⟩, ⟨_, Try.func4, comp4, okf4⟩, ⟨_, Try.func5, comp5, okf5⟩, ⟨_, Try.func6, comp6, okf6⟩, ⟨_, Try.func7, comp7, okf7⟩, ⟨_, Try.func8, comp8, okf8⟩, ⟨_, Try.func9, comp9, okf9⟩, ⟨_, Try.func10, comp10, okf10⟩, ⟨_, Try.func11, comp11, okf11⟩, ⟨_, Try.func12, comp12, okf12⟩, ⟨_, Try.func13, comp13, okf13⟩, ⟨_, Try.func14, comp14, okf14⟩, ⟨_, Try.func15, comp15, okf15⟩, ⟨_, Try.func16, comp16, okf16⟩, ⟨_, Try.func17, comp17, okf17⟩, ⟨_, Try.func19, comp19, okf19⟩, ⟨_, Try.func20, comp20, okf20⟩, ⟨_, Try.func21, comp21, okf21⟩, ⟨_, Try.func22, comp22, okf22⟩, ⟨_, Try.func23, comp23, okf23⟩, ⟨_, Try.func24, comp24, okf24⟩, ⟨_, Try.func25, comp25, okf25⟩, ⟨_, Try.func26, comp26, okf26⟩, ⟨_, Try.func27, comp27, okf27⟩, ⟨_, Try.func28, comp28, okf28⟩, ⟨_, Try.func32, comp32, okf32⟩, ⟨_, Try.func33, comp33, okf33⟩, ⟨_, Try.func34, comp34, okf34⟩, ⟨_, Try.func37, comp37, okf37⟩, ⟨_, Try.func38, comp38, okf38⟩, ⟨_, Try.func39, comp39, okf39⟩, ⟨_, Try.func45, comp45, okf45⟩, ⟨_, Try.func46, comp46, okf46⟩, ⟨_, Try.func47, comp47, okf47⟩, fun _ h => by cases h⟩
end Go.Proofs.Ytlmbgmobghmmmaa
