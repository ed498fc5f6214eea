/-
  The code of the functions that the laws reach, as the evaluator has it.
-/
import Derived.Test.YtonibcnbcnibeaaChecked
import Derived.Test.YtonibcnbcnibeaaVm11c
import Derived.Test.YtonibcnbcnibeaaVm5
namespace Go.Proofs.Ytonibcnbcnibeaa
open Go.VM
-- 3: corebank/corebanklaw46.AccessChecks
def code3 : FCode := ⟨2, [.tmp 4],
 (.seq (.q [(4, (.k (.b false)))])
 (.seq (.seq (.q [(10, (.op (.call false 7) [(.sl 0)]))])
 (.cond (.sl 10) (.seq (.q [(4, (.k (.b true)))])
 (.ret [4])) .skip))
 (.seq (.s [.mv 12 (.t 0), .mv 13 (.t 1), .call (some 14) 8 [(.t 12), (.t 13)], .mv 11 (.t 14), .ext 15 0 11, .ext 16 1 11, .alo 5 [(.s []), (.i .i64 0), (.i .i64 0)], .sto 3 (.t 5) (.t 15), .as 6 (.t 16)] [12, 13, 14, 11, 15, 16])
 (.seq (.s [.mv 18 (.t 0), .mv 19 (.t 1), .call (some 20) 9 [(.t 18), (.t 19)], .mv 17 (.t 20), .ext 21 0 17, .ext 22 1 17, .alo 7 [(.s []), (.i .i64 0), (.i .i64 0)], .sto 3 (.t 7) (.t 21), .as 8 (.t 22)] [18, 19, 20, 17, 21, 22])
 (.seq (.q [(4, (.ite (.ite (.ite (.op (.bin .eql) [(.op (.call false 10) [(.sl 0)]), (.op (.call false 11) [(.sl 0)])]) (.op (.eqa false [2, 1, 1]) [(.op (.ld 3 true) [(.sl 5)]), (.op (.ld 3 true) [(.sl 7)])]) (.k (.b false))) (.op (.binb .eql) [(.sl 6), (.sl 8)]) (.k (.b false))) (.op (.call false 12) []) (.k (.b false))))])
 (.ret [4]))))))⟩
theorem comp3 : compile Try.prog Try.f3 = some code3 := by kernel_rfl
theorem okf3 : okFn Try.prog 3 = true := by kernel_rfl
-- 4: corebank/corebanklaw46.AccessDecides
def body4_1 : C :=
 (.seq (.seq (.q [(15, (.op (.bin .leq) [(.sl 7), (.op .len [(.sl 0)])]))])
 (.cond (.sl 15) .skip (.exit 0 [])))
 (.seq (.blk 1 (.seq (.q [(8, (.k (.s [110, 111, 98, 111, 100, 121])))])
 (.seq (.seq (.q [(21, (.op (.bin .lss) [(.sl 7), (.op .len [(.sl 0)])]))])
 (.cond (.sl 21) (.q [(8, (.op (.ld 1 false) [(.op (.fa 0 1) [(.op (.ix 3) [(.sl 0), (.sl 7)])])]))]) .skip))
 (.seq (.q [(9, (.op (.call false 13) [(.sl 0), (.sl 8), (.sl 1), (.sl 2)]))])
 (.seq (.q [(61, (.ite (.ite (.op (.binb .neq) [(.op (.call false 14) [(.sl 0), (.sl 8), (.sl 1)]), (.op (.call false 15) [(.sl 0), (.sl 8), (.sl 1)])]) (.k (.b true)) (.op (.binb .neq) [(.sl 9), (.op (.call false 16) [(.sl 0), (.sl 8), (.sl 1), (.sl 2)])])) (.k (.b true)) (.ite (.sl 9) (.op (.un .not) [(.op (.call false 13) [(.sl 0), (.sl 8), (.sl 1), (.op (.bin .quo) [(.sl 2), (.k (.i .i64 2))])])]) (.k (.b false)))))])
 (.cond (.sl 61) (.seq (.q [(6, (.k (.b false)))])
 (.ret [6])) .skip))))))
 (.q [(7, (.op (.bin .add) [(.sl 7), (.k (.i .i64 1))]))])))
def code4 : FCode := ⟨3, [.tmp 6],
 (.seq (.q [(6, (.k (.b false)))])
 (.seq (.seq (.q [(11, (.op (.call false 7) [(.sl 0)]))])
 (.cond (.sl 11) (.seq (.q [(6, (.k (.b true)))])
 (.ret [6])) .skip))
 (.seq (.seq (.q [(7, (.k (.i .i64 0)))])
 (.blk 0 (.loop [0, 1, 2, 7] body4_1)))
 (.seq (.q [(6, (.op (.call false 12) []))])
 (.ret [6])))))⟩
theorem comp4 : compile Try.prog Try.f4 = some code4 := by kernel_rfl
theorem okf4 : okFn Try.prog 4 = true := by kernel_rfl
-- 5: corebank/corebanklaw46.AccessChanges
def code5 : FCode := ⟨3, [.tmp 6],
 (.seq (.q [(6, (.k (.b false)))])
 (.seq (.seq (.q [(16, (.op (.call false 7) [(.sl 0)]))])
 (.cond (.sl 16) (.seq (.q [(6, (.k (.b true)))])
 (.ret [6])) .skip))
 (.seq (.s [.mv 18 (.t 0), .mv 19 (.t 1), .mv 20 (.t 2), .call (some 21) 17 [(.t 18), (.t 19), (.t 20)], .mv 17 (.t 21), .ext 22 0 17, .ext 23 1 17, .as 7 (.t 22), .as 8 (.t 23)] [18, 19, 20, 21, 17, 22, 23])
 (.seq (.s [.mv 25 (.t 0), .mv 26 (.t 1), .mv 27 (.t 2), .call (some 28) 18 [(.t 25), (.t 26), (.t 27)], .mv 24 (.t 28), .ext 29 0 24, .ext 30 1 24, .as 9 (.t 29), .as 10 (.t 30)] [25, 26, 27, 28, 24, 29, 30])
 (.seq (.s [.mv 32 (.t 0), .mv 33 (.t 1), .mv 34 (.t 2), .call (some 35) 19 [(.t 32), (.t 33), (.t 34)], .mv 31 (.t 35), .ext 36 0 31, .ext 37 1 31, .as 11 (.t 36), .as 12 (.t 37)] [32, 33, 34, 35, 31, 36, 37])
 (.seq (.s [.mv 39 (.t 0), .mv 40 (.t 1), .mv 41 (.t 2), .call (some 42) 20 [(.t 39), (.t 40), (.t 41)], .mv 38 (.t 42), .ext 43 0 38, .ext 44 1 38, .as 13 (.t 43), .as 14 (.t 44)] [39, 40, 41, 42, 38, 43, 44])
 (.seq (.seq (.q [(64, (.ite (.ite (.ite (.op (.bin .neq) [(.sl 8), (.sl 10)]) (.k (.b true)) (.op (.bin .neq) [(.sl 12), (.sl 14)])) (.k (.b true)) (.op (.un .not) [(.op (.call false 21) [(.sl 7), (.sl 9)])])) (.k (.b true)) (.op (.un .not) [(.op (.call false 21) [(.sl 11), (.sl 13)])])))])
 (.cond (.sl 64) (.seq (.q [(6, (.k (.b false)))])
 (.ret [6])) .skip))
 (.seq (.q [(6, (.ite (.ite (.ite (.op (.bin .neq) [(.sl 8), (.k (.i .i64 0))]) (.k (.b true)) (.op (.bin .neq) [(.op (.call false 10) [(.sl 0)]), (.k (.i .i64 0))])) (.k (.b true)) (.ite (.op (.bin .eql) [(.op (.call false 10) [(.sl 7)]), (.k (.i .i64 0))]) (.op (.bin .eql) [(.op (.call false 10) [(.sl 11)]), (.k (.i .i64 0))]) (.k (.b false)))) (.op (.call false 12) []) (.k (.b false))))])
 (.ret [6])))))))))⟩
theorem comp5 : compile Try.prog Try.f5 = some code5 := by kernel_rfl
theorem okf5 : okFn Try.prog 5 = true := by kernel_rfl
-- 6: corebank/corebanklaw46.AccessRights
def body6_1 : C :=
 (.seq (.seq (.q [(125, (.op (.bin .leq) [(.sl 12), (.k (.i .i64 64))]))])
 (.cond (.sl 125) .skip (.exit 2 [0, 1, 2, 7, 9, 11])))
 (.seq (.blk 3 (.seq (.q [(13, (.op (.call false 14) [(.sl 0), (.op (.ld 1 false) [(.op (.fa 0 1) [(.op (.ix 3) [(.sl 0), (.sl 11)])])]), (.sl 12)]))])
 (.seq (.q [(14, (.ite (.op (.bin .eql) [(.op (.ld 1 false) [(.op (.fa 0 1) [(.op (.ix 3) [(.sl 0), (.sl 11)])])]), (.sl 1)]) (.op (.bin .eql) [(.op (.bin .rem) [(.op (.bin .quo) [(.sl 2), (.sl 12)]), (.k (.i .i64 2))]), (.k (.i .i64 1))]) (.k (.b false))))])
 (.seq (.q [(178, (.ite (.op (.binb .neq) [(.op (.call false 14) [(.sl 7), (.op (.ld 1 false) [(.op (.fa 0 1) [(.op (.ix 3) [(.sl 0), (.sl 11)])])]), (.sl 12)]), (.ite (.sl 13) (.k (.b true)) (.sl 14))]) (.k (.b true)) (.op (.binb .neq) [(.op (.call false 14) [(.sl 9), (.op (.ld 1 false) [(.op (.fa 0 1) [(.op (.ix 3) [(.sl 0), (.sl 11)])])]), (.sl 12)]), (.ite (.sl 13) (.op (.un .not) [(.sl 14)]) (.k (.b false)))])))])
 (.cond (.sl 178) (.seq (.q [(6, (.k (.b false)))])
 (.ret [6])) .skip)))))
 (.q [(12, (.op (.bin .mul) [(.k (.i .i64 2)), (.sl 12)]))])))
def body6_2 : C :=
 (.seq (.seq (.q [(71, (.op (.bin .lss) [(.sl 11), (.op .len [(.sl 0)])]))])
 (.cond (.sl 71) .skip (.exit 0 [])))
 (.seq (.blk 1 (.seq (.seq (.q [(123, (.ite (.ite (.ite (.op (.bin .neq) [(.op (.ld 1 false) [(.op (.fa 0 1) [(.op (.ix 3) [(.sl 7), (.sl 11)])])]), (.op (.ld 1 false) [(.op (.fa 0 1) [(.op (.ix 3) [(.sl 0), (.sl 11)])])])]) (.k (.b true)) (.op (.bin .neq) [(.op (.ld 1 false) [(.op (.fa 0 1) [(.op (.ix 3) [(.sl 9), (.sl 11)])])]), (.op (.ld 1 false) [(.op (.fa 0 1) [(.op (.ix 3) [(.sl 0), (.sl 11)])])])])) (.k (.b true)) (.op (.bin .neq) [(.op (.ld 1 false) [(.op (.fa 2 1) [(.op (.ix 3) [(.sl 7), (.sl 11)])])]), (.op (.ld 1 false) [(.op (.fa 2 1) [(.op (.ix 3) [(.sl 0), (.sl 11)])])])])) (.k (.b true)) (.op (.bin .neq) [(.op (.ld 1 false) [(.op (.fa 2 1) [(.op (.ix 3) [(.sl 9), (.sl 11)])])]), (.op (.ld 1 false) [(.op (.fa 2 1) [(.op (.ix 3) [(.sl 0), (.sl 11)])])])])))])
 (.cond (.sl 123) (.seq (.q [(6, (.k (.b false)))])
 (.ret [6])) .skip))
 (.seq (.q [(12, (.k (.i .i64 1)))])
 (.blk 2 (.loop [0, 1, 2, 7, 9, 11, 12] body6_1)))))
 (.q [(11, (.op (.bin .add) [(.sl 11), (.k (.i .i64 1))]))])))
def code6 : FCode := ⟨3, [.tmp 6],
 (.seq (.q [(6, (.k (.b false)))])
 (.seq (.seq (.q [(21, (.ite (.op (.call false 7) [(.sl 0)]) (.k (.b true)) (.op (.bin .neq) [(.op (.call false 10) [(.sl 0)]), (.k (.i .i64 0))])))])
 (.cond (.sl 21) (.seq (.q [(6, (.k (.b true)))])
 (.ret [6])) .skip))
 (.seq (.s [.mv 23 (.t 0), .mv 24 (.t 1), .mv 25 (.t 2), .call (some 26) 17 [(.t 23), (.t 24), (.t 25)], .mv 22 (.t 26), .ext 27 0 22, .ext 28 1 22, .as 7 (.t 27), .as 8 (.t 28)] [23, 24, 25, 26, 22, 27, 28])
 (.seq (.s [.mv 30 (.t 0), .mv 31 (.t 1), .mv 32 (.t 2), .call (some 33) 19 [(.t 30), (.t 31), (.t 32)], .mv 29 (.t 33), .ext 34 0 29, .ext 35 1 29, .as 9 (.t 34), .as 10 (.t 35)] [30, 31, 32, 33, 29, 34, 35])
 (.seq (.seq (.q [(41, (.ite (.op (.bin .neq) [(.sl 8), (.k (.i .i64 0))]) (.k (.b true)) (.op (.bin .neq) [(.sl 10), (.k (.i .i64 0))])))])
 (.cond (.sl 41) (.seq (.q [(6, (.ite (.ite (.op (.bin .eql) [(.sl 8), (.sl 10)]) (.op (.bin .eql) [(.op (.bin .add) [(.op .len [(.sl 7)]), (.op .len [(.sl 9)])]), (.k (.i .i64 0))]) (.k (.b false))) (.op (.call false 12) []) (.k (.b false))))])
 (.ret [6])) .skip))
 (.seq (.seq (.q [(67, (.ite (.op (.bin .neq) [(.op .len [(.sl 7)]), (.op .len [(.sl 0)])]) (.k (.b true)) (.op (.bin .neq) [(.op .len [(.sl 9)]), (.op .len [(.sl 0)])])))])
 (.cond (.sl 67) (.seq (.q [(6, (.k (.b false)))])
 (.ret [6])) .skip))
 (.seq (.seq (.q [(11, (.k (.i .i64 0)))])
 (.blk 0 (.loop [0, 1, 2, 7, 9, 11] body6_2)))
 (.seq (.q [(6, (.op (.call false 12) []))])
 (.ret [6])))))))))⟩
theorem comp6 : compile Try.prog Try.f6 = some code6 := by kernel_rfl
theorem okf6 : okFn Try.prog 6 = true := by kernel_rfl
-- 7: corebank/corebankref46.Great
def body7_1 : C :=
 (.seq (.seq (.q [(10, (.op (.bin .lss) [(.sl 3), (.op .len [(.sl 0)])]))])
 (.cond (.sl 10) .skip (.exit 0 [])))
 (.seq (.blk 1 (.seq (.q [(19, (.op (.bin .gtr) [(.op .slen [(.op (.ld 1 false) [(.op (.fa 0 1) [(.op (.ix 3) [(.sl 0), (.sl 3)])])])]), (.k (.i .i64 200))]))])
 (.cond (.sl 19) (.seq (.q [(2, (.k (.b true)))])
 (.ret [2])) .skip)))
 (.q [(3, (.op (.bin .add) [(.sl 3), (.k (.i .i64 1))]))])))
def code7 : FCode := ⟨1, [.tmp 2],
 (.seq (.q [(2, (.k (.b false)))])
 (.seq (.seq (.q [(6, (.op (.bin .gtr) [(.op .len [(.sl 0)]), (.k (.i .i64 40))]))])
 (.cond (.sl 6) (.seq (.q [(2, (.k (.b true)))])
 (.ret [2])) .skip))
 (.seq (.seq (.q [(3, (.k (.i .i64 0)))])
 (.blk 0 (.loop [0, 3] body7_1)))
 (.seq (.q [(2, (.k (.b false)))])
 (.ret [2])))))⟩
theorem comp7 : compile Try.prog Try.f7 = some code7 := by kernel_rfl
theorem okf7 : okFn Try.prog 7 = true := by kernel_rfl
-- 8: corebank/access.Find
def code8 : FCode := ⟨2, [.cell 4 3 true, .tmp 5],
 (.seq (.s [.alo 4 [(.s []), (.i .i64 0), (.i .i64 0)], .as 5 (.c (.b false))] [])
 (.seq (.q [(6, (.op (.call false 22) [(.sl 0), (.sl 1)]))])
 (.seq (.seq (.q [(11, (.op (.bin .lss) [(.sl 6), (.k (.i .i64 0))]))])
 (.cond (.sl 11) (.seq (.s [.bld 12 [(.s []), (.i .i64 0), (.i .i64 0)] [] [], .sto 3 (.t 4) (.t 12), .as 5 (.c (.b false))] [12])
 (.ret [4, 5])) .skip))
 (.seq (.s [.mv 13 (.t 0), .mv 14 (.t 6), .ix 15 3 (.t 13) (.t 14), .q 16 (.ld 3 true) [(.t 15)], .sto 3 (.t 4) (.t 16), .as 5 (.c (.b true))] [13, 14, 15, 16])
 (.ret [4, 5])))))⟩
theorem comp8 : compile Try.prog Try.f8 = some code8 := by kernel_rfl
theorem okf8 : okFn Try.prog 8 = true := by kernel_rfl
-- 9: corebank/corebankref46.Find
def code9 : FCode := ⟨2, [.cell 4 3 true, .tmp 5],
 (.seq (.s [.alo 4 [(.s []), (.i .i64 0), (.i .i64 0)], .as 5 (.c (.b false))] [])
 (.seq (.q [(6, (.op (.call false 23) [(.sl 0), (.sl 1)]))])
 (.seq (.seq (.q [(11, (.op (.bin .lss) [(.sl 6), (.k (.i .i64 0))]))])
 (.cond (.sl 11) (.seq (.s [.bld 12 [(.s []), (.i .i64 0), (.i .i64 0)] [] [], .sto 3 (.t 4) (.t 12), .as 5 (.c (.b false))] [12])
 (.ret [4, 5])) .skip))
 (.seq (.s [.mv 13 (.t 0), .mv 14 (.t 6), .ix 15 3 (.t 13) (.t 14), .q 16 (.ld 3 true) [(.t 15)], .sto 3 (.t 4) (.t 16), .as 5 (.c (.b true))] [13, 14, 15, 16])
 (.ret [4, 5])))))⟩
theorem comp9 : compile Try.prog Try.f9 = some code9 := by kernel_rfl
theorem okf9 : okFn Try.prog 9 = true := by kernel_rfl
-- 10: corebank/access.Check
def body10_1 : C :=
 (.seq (.q [(16, (.op (.bin .lss) [(.sl 15), (.sl 14)]))])
 (.seq (.cond (.sl 16) .skip (.exit 0 []))
 (.seq (.blk 1 (.seq (.s [.mv 17 (.t 15), .ix 18 3 (.t 13) (.t 15), .q 19 (.ld 3 true) [(.t 18)], .alo 4 [(.s []), (.i .i64 0), (.i .i64 0)], .as 3 (.t 17), .sto 3 (.t 4) (.t 19)] [17, 18, 19])
 (.blk 2 (.seq (.q [(20, (.op (.un .not) [(.op (.call false 24) [(.op (.ld 1 false) [(.op (.fa 0 1) [(.sl 4)])])])]))])
 (.cond (.sl 20) (.seq (.q [(2, (.k (.i .i64 4)))])
 (.ret [2])) (.seq (.q [(25, (.ite (.ite (.ite (.op (.bin .lss) [(.op (.ld 1 false) [(.op (.fa 1 1) [(.sl 4)])]), (.k (.i .i64 0))]) (.k (.b true)) (.op (.bin .gtr) [(.op (.ld 1 false) [(.op (.fa 1 1) [(.sl 4)])]), (.k (.i .i64 127))])) (.k (.b true)) (.op (.bin .lss) [(.op (.ld 1 false) [(.op (.fa 2 1) [(.sl 4)])]), (.k (.i .i64 0))])) (.k (.b true)) (.op (.bin .gtr) [(.op (.ld 1 false) [(.op (.fa 2 1) [(.sl 4)])]), (.k (.i .i64 1000000000000))])))])
 (.cond (.sl 25) (.seq (.q [(2, (.k (.i .i64 1)))])
 (.ret [2])) (.seq (.q [(44, (.ite (.op (.bin .gtr) [(.sl 3), (.k (.i .i64 0))]) (.op (.bin .leq) [(.op (.ld 1 false) [(.op (.fa 0 1) [(.sl 4)])]), (.op (.ld 1 false) [(.op (.fa 0 1) [(.op (.ix 3) [(.sl 0), (.op (.bin .sub) [(.sl 3), (.k (.i .i64 1))])])])])]) (.k (.b false))))])
 (.cond (.sl 44) (.seq (.q [(2, (.k (.i .i64 10)))])
 (.ret [2])) .skip)))))))))
 (.q [(15, (.op (.bin .add) [(.sl 15), (.k (.i .i64 1))]))]))))
def code10 : FCode := ⟨1, [.tmp 2],
 (.seq (.q [(2, (.k (.i .i64 0)))])
 (.seq (.seq (.q [(12, (.ite (.op (.bin .lss) [(.op .len [(.sl 0)]), (.k (.i .i64 1))]) (.k (.b true)) (.op (.bin .gtr) [(.op .len [(.sl 0)]), (.k (.i .i64 16))])))])
 (.cond (.sl 12) (.seq (.q [(2, (.k (.i .i64 5)))])
 (.ret [2])) .skip))
 (.seq (.seq (.s [.mv 13 (.t 0), .q 14 .len [(.t 13)], .mv 15 (.c (.i .i64 0))] [])
 (.blk 0 (.loop [0, 13, 14, 15] body10_1)))
 (.seq (.q [(2, (.k (.i .i64 0)))])
 (.ret [2])))))⟩
theorem comp10 : compile Try.prog Try.f10 = some code10 := by kernel_rfl
theorem okf10 : okFn Try.prog 10 = true := by kernel_rfl
-- 11: corebank/corebankref46.Check
def body11_1 : C :=
 (.seq (.seq (.q [(16, (.op (.bin .lss) [(.sl 3), (.op .len [(.sl 0)])]))])
 (.cond (.sl 16) .skip (.exit 0 [])))
 (.seq (.blk 1 (.seq (.s [.mv 19 (.t 0), .mv 20 (.t 3), .ix 21 3 (.t 19) (.t 20), .q 22 (.ld 3 true) [(.t 21)], .alo 4 [(.s []), (.i .i64 0), (.i .i64 0)], .sto 3 (.t 4) (.t 22)] [19, 20, 21, 22])
 (.seq (.seq (.q [(26, (.op (.un .not) [(.op (.call false 25) [(.op (.ld 1 false) [(.op (.fa 0 1) [(.sl 4)])])])]))])
 (.cond (.sl 26) (.seq (.q [(2, (.k (.i .i64 4)))])
 (.ret [2])) .skip))
 (.seq (.seq (.q [(44, (.ite (.ite (.ite (.op (.bin .lss) [(.op (.ld 1 false) [(.op (.fa 1 1) [(.sl 4)])]), (.k (.i .i64 0))]) (.k (.b true)) (.op (.bin .gtr) [(.op (.ld 1 false) [(.op (.fa 1 1) [(.sl 4)])]), (.k (.i .i64 127))])) (.k (.b true)) (.op (.bin .lss) [(.op (.ld 1 false) [(.op (.fa 2 1) [(.sl 4)])]), (.k (.i .i64 0))])) (.k (.b true)) (.op (.bin .gtr) [(.op (.ld 1 false) [(.op (.fa 2 1) [(.sl 4)])]), (.k (.i .i64 1000000000000))])))])
 (.cond (.sl 44) (.seq (.q [(2, (.k (.i .i64 1)))])
 (.ret [2])) .skip))
 (.seq (.q [(57, (.ite (.op (.bin .gtr) [(.sl 3), (.k (.i .i64 0))]) (.op (.bin .leq) [(.op (.ld 1 false) [(.op (.fa 0 1) [(.sl 4)])]), (.op (.ld 1 false) [(.op (.fa 0 1) [(.op (.ix 3) [(.sl 0), (.op (.bin .sub) [(.sl 3), (.k (.i .i64 1))])])])])]) (.k (.b false))))])
 (.cond (.sl 57) (.seq (.q [(2, (.k (.i .i64 10)))])
 (.ret [2])) .skip))))))
 (.q [(3, (.op (.bin .add) [(.sl 3), (.k (.i .i64 1))]))])))
def code11 : FCode := ⟨1, [.tmp 2],
 (.seq (.q [(2, (.k (.i .i64 0)))])
 (.seq (.seq (.q [(12, (.ite (.op (.bin .lss) [(.op .len [(.sl 0)]), (.k (.i .i64 1))]) (.k (.b true)) (.op (.bin .gtr) [(.op .len [(.sl 0)]), (.k (.i .i64 16))])))])
 (.cond (.sl 12) (.seq (.q [(2, (.k (.i .i64 5)))])
 (.ret [2])) .skip))
 (.seq (.seq (.q [(3, (.k (.i .i64 0)))])
 (.blk 0 (.loop [0, 3] body11_1)))
 (.seq (.q [(2, (.k (.i .i64 0)))])
 (.ret [2])))))⟩
theorem comp11 : compile Try.prog Try.f11 = some code11 := by kernel_rfl
theorem okf11 : okFn Try.prog 11 = true := by kernel_rfl
-- 12: corebank/corebanklaw46.live
def code12 : FCode := ⟨0, [.tmp 0],
 (.seq (.q [(0, (.k (.b false)))])
 (.seq (.s [.bld 10 [(.s []), (.i .i64 0), (.i .i64 0)] [(0, 1), (1, 1), (2, 1)] [(.c (.s [97, 110, 110])), (.c (.i .i64 3)), (.c (.i .i64 100))], .bld 11 [(.s []), (.i .i64 0), (.i .i64 0)] [(0, 1)] [(.c (.s [98, 111, 98]))], .bsl 12 25 3 [(.t 10), (.t 11)], .as 1 (.t 12)] [10, 11, 12])
 (.seq (.s [.mv 14 (.t 1), .call (some 15) 17 [(.t 14), (.c (.s [97, 110, 110])), (.c (.i .i64 4))], .mv 13 (.t 15), .ext 16 0 13, .ext 17 1 13, .as 2 (.t 16), .as 3 (.t 17)] [14, 15, 13, 16, 17])
 (.seq (.s [.mv 19 (.t 2), .call (some 20) 19 [(.t 19), (.c (.s [97, 110, 110])), (.c (.i .i64 5))], .mv 18 (.t 20), .ext 21 0 18, .ext 22 1 18, .as 4 (.t 21), .as 5 (.t 22)] [19, 20, 18, 21, 22])
 (.seq (.s [.mv 24 (.t 1), .call (some 25) 17 [(.t 24), (.c (.s [99, 97, 108])), (.c (.i .i64 1))], .mv 23 (.t 25), .ext 26 0 23, .ext 27 1 23, .as 6 (.t 26), .as 7 (.t 27)] [24, 25, 23, 26, 27, 6])
 (.seq (.s [.mv 29 (.t 4), .call (some 30) 8 [(.t 29), (.c (.s [97, 110, 110]))], .mv 28 (.t 30), .ext 31 0 28, .ext 32 1 28, .alo 8 [(.s []), (.i .i64 0), (.i .i64 0)], .sto 3 (.t 8) (.t 31), .as 9 (.t 32)] [29, 30, 28, 31, 32])
 (.seq (.q [(0, (.ite (.ite (.ite (.ite (.ite (.ite (.ite (.ite (.ite (.ite (.ite (.ite (.ite (.op (.bin .eql) [(.op (.call false 10) [(.sl 1)]), (.k (.i .i64 0))]) (.op (.bin .eql) [(.op (.call false 10) [(.k (.l []))]), (.k (.i .i64 5))]) (.k (.b false))) (.op (.bin .eql) [(.sl 3), (.k (.i .i64 0))]) (.k (.b false))) (.op (.call false 14) [(.sl 2), (.k (.s [97, 110, 110])), (.k (.i .i64 7))]) (.k (.b false))) (.op (.bin .eql) [(.sl 5), (.k (.i .i64 0))]) (.k (.b false))) (.sl 9) (.k (.b false))) (.op (.bin .eql) [(.op (.ld 1 false) [(.op (.fa 1 1) [(.sl 8)])]), (.k (.i .i64 2))]) (.k (.b false))) (.op (.bin .eql) [(.sl 7), (.k (.i .i64 11))]) (.k (.b false))) (.op (.call false 14) [(.sl 1), (.k (.s [97, 110, 110])), (.k (.i .i64 3))]) (.k (.b false))) (.op (.un .not) [(.op (.call false 14) [(.sl 1), (.k (.s [97, 110, 110])), (.k (.i .i64 5))])]) (.k (.b false))) (.op (.un .not) [(.op (.call false 14) [(.sl 1), (.k (.s [98, 111, 98])), (.k (.i .i64 1))])]) (.k (.b false))) (.op (.call false 13) [(.sl 1), (.k (.s [97, 110, 110])), (.k (.i .i64 1)), (.k (.i .i64 100))]) (.k (.b false))) (.op (.un .not) [(.op (.call false 13) [(.sl 1), (.k (.s [97, 110, 110])), (.k (.i .i64 1)), (.k (.i .i64 101))])]) (.k (.b false))) (.op (.un .not) [(.op (.call false 13) [(.sl 1), (.k (.s [97, 110, 110])), (.k (.i .i64 1)), (.k (.i .i64 (-1)))])]) (.k (.b false))))])
 (.ret [0]))))))))⟩
theorem comp12 : compile Try.prog Try.f12 = some code12 := by kernel_rfl
theorem okf12 : okFn Try.prog 12 = true := by kernel_rfl
-- 13: corebank/access.Alone
def code13 : FCode := ⟨4, [.tmp 8],
 (.seq (.q [(8, (.k (.b false)))])
 (.seq (.s [.mv 12 (.t 0), .mv 13 (.t 1), .call (some 14) 8 [(.t 12), (.t 13)], .mv 11 (.t 14), .ext 15 0 11, .ext 16 1 11, .alo 9 [(.s []), (.i .i64 0), (.i .i64 0)], .sto 3 (.t 9) (.t 15), .as 10 (.t 16)] [12, 13, 14, 11, 15, 16, 10])
 (.seq (.q [(8, (.ite (.ite (.op (.call false 14) [(.sl 0), (.sl 1), (.sl 2)]) (.op (.bin .geq) [(.sl 3), (.k (.i .i64 0))]) (.k (.b false))) (.op (.bin .leq) [(.sl 3), (.op (.ld 1 false) [(.op (.fa 2 1) [(.sl 9)])])]) (.k (.b false))))])
 (.ret [8]))))⟩
theorem comp13 : compile Try.prog Try.f13 = some code13 := by kernel_rfl
theorem okf13 : okFn Try.prog 13 = true := by kernel_rfl
-- 14: corebank/access.Has
def code14 : FCode := ⟨3, [.tmp 6],
 (.seq (.q [(6, (.k (.b false)))])
 (.seq (.s [.mv 10 (.t 0), .mv 11 (.t 1), .call (some 12) 8 [(.t 10), (.t 11)], .mv 9 (.t 12), .ext 13 0 9, .ext 14 1 9, .alo 7 [(.s []), (.i .i64 0), (.i .i64 0)], .sto 3 (.t 7) (.t 13), .as 8 (.t 14)] [10, 11, 12, 9, 13, 14])
 (.seq (.q [(6, (.ite (.ite (.sl 8) (.op (.call false 26) [(.sl 2)]) (.k (.b false))) (.op (.bin .eql) [(.op (.bin .and) [(.op (.ld 1 false) [(.op (.fa 1 1) [(.sl 7)])]), (.sl 2)]), (.sl 2)]) (.k (.b false))))])
 (.ret [6]))))⟩
theorem comp14 : compile Try.prog Try.f14 = some code14 := by kernel_rfl
theorem okf14 : okFn Try.prog 14 = true := by kernel_rfl
-- 15: corebank/corebankref46.Has
def code15 : FCode := ⟨3, [.tmp 6],
 (.seq (.q [(6, (.k (.b false)))])
 (.seq (.s [.mv 10 (.t 0), .mv 11 (.t 1), .call (some 12) 9 [(.t 10), (.t 11)], .mv 9 (.t 12), .ext 13 0 9, .ext 14 1 9, .alo 7 [(.s []), (.i .i64 0), (.i .i64 0)], .sto 3 (.t 7) (.t 13), .as 8 (.t 14)] [10, 11, 12, 9, 13, 14])
 (.seq (.q [(6, (.ite (.ite (.sl 8) (.op (.call false 27) [(.sl 2)]) (.k (.b false))) (.op (.bin .eql) [(.op (.bin .and) [(.op (.ld 1 false) [(.op (.fa 1 1) [(.sl 7)])]), (.sl 2)]), (.sl 2)]) (.k (.b false))))])
 (.ret [6]))))⟩
theorem comp15 : compile Try.prog Try.f15 = some code15 := by kernel_rfl
theorem okf15 : okFn Try.prog 15 = true := by kernel_rfl
-- 16: corebank/corebankref46.Alone
def code16 : FCode := ⟨4, [.tmp 8],
 (.seq (.q [(8, (.k (.b false)))])
 (.seq (.s [.mv 12 (.t 0), .mv 13 (.t 1), .call (some 14) 9 [(.t 12), (.t 13)], .mv 11 (.t 14), .ext 15 0 11, .ext 16 1 11, .alo 9 [(.s []), (.i .i64 0), (.i .i64 0)], .sto 3 (.t 9) (.t 15), .as 10 (.t 16)] [12, 13, 14, 11, 15, 16, 10])
 (.seq (.q [(8, (.ite (.ite (.op (.call false 15) [(.sl 0), (.sl 1), (.sl 2)]) (.op (.bin .geq) [(.sl 3), (.k (.i .i64 0))]) (.k (.b false))) (.op (.bin .leq) [(.sl 3), (.op (.ld 1 false) [(.op (.fa 2 1) [(.sl 9)])])]) (.k (.b false))))])
 (.ret [8]))))⟩
theorem comp16 : compile Try.prog Try.f16 = some code16 := by kernel_rfl
theorem okf16 : okFn Try.prog 16 = true := by kernel_rfl
-- 17: corebank/access.Grant
def code17 : FCode := ⟨3, [.tmp 6, .tmp 7],
 (.seq (.s [.box 5 (.t 2), .as 6 (.c (.ow 25 [])), .as 7 (.c (.i .i64 0))] [])
 (.seq (.s [.mv 8 (.t 0), .mv 9 (.t 1), .q 10 (.ld 1 false) [(.t 5)], .mkf 11 (.func 29) 0 [(.t 5)], .call (some 12) 28 [(.t 8), (.t 9), (.t 10), (.t 11)], .ext 13 0 12, .ext 14 1 12, .as 6 (.t 13), .as 7 (.t 14)] [8, 9, 10, 11, 12, 13, 14])
 (.ret [6, 7])))⟩
theorem comp17 : compile Try.prog Try.f17 = some code17 := by kernel_rfl
theorem okf17 : okFn Try.prog 17 = true := by kernel_rfl
-- 18: corebank/corebankref46.Grant
def code18 : FCode := ⟨3, [.tmp 6, .tmp 7],
 (.seq (.s [.as 6 (.c (.ow 25 [])), .as 7 (.c (.i .i64 0))] [])
 (.seq (.q [(8, (.op (.call false 23) [(.sl 0), (.sl 1)]))])
 (.seq (.seq (.q [(13, (.op (.bin .lss) [(.sl 8), (.k (.i .i64 0))]))])
 (.cond (.sl 13) (.seq (.s [.as 6 (.c (.ow 25 [])), .as 7 (.c (.i .i64 11))] [])
 (.ret [6, 7])) .skip))
 (.seq (.seq (.q [(16, (.op (.un .not) [(.op (.call false 27) [(.sl 2)])]))])
 (.cond (.sl 16) (.seq (.s [.as 6 (.c (.ow 25 [])), .as 7 (.c (.i .i64 1))] [])
 (.ret [6, 7])) .skip))
 (.seq (.s [.mv 17 (.t 0), .mv 18 (.t 8), .mv 19 (.t 0), .mv 20 (.t 8), .ix 21 3 (.t 19) (.t 20), .fa 22 1 1 (.t 21), .q 23 (.ld 1 false) [(.t 22)], .mv 24 (.t 2), .q 25 (.bin .or) [(.t 23), (.t 24)], .call (some 26) 30 [(.t 17), (.t 18), (.t 25)], .as 6 (.t 26), .as 7 (.c (.i .i64 0))] [17, 18, 19, 20, 21, 22, 23, 24, 25, 26])
 (.ret [6, 7]))))))⟩
theorem comp18 : compile Try.prog Try.f18 = some code18 := by kernel_rfl
theorem okf18 : okFn Try.prog 18 = true := by kernel_rfl
-- 19: corebank/access.Withdraw
def code19 : FCode := ⟨3, [.tmp 6, .tmp 7],
 (.seq (.s [.box 5 (.t 2), .as 6 (.c (.ow 25 [])), .as 7 (.c (.i .i64 0))] [])
 (.seq (.s [.mv 8 (.t 0), .mv 9 (.t 1), .q 10 (.ld 1 false) [(.t 5)], .mkf 11 (.func 31) 0 [(.t 5)], .call (some 12) 28 [(.t 8), (.t 9), (.t 10), (.t 11)], .ext 13 0 12, .ext 14 1 12, .as 6 (.t 13), .as 7 (.t 14)] [8, 9, 10, 11, 12, 13, 14])
 (.ret [6, 7])))⟩
theorem comp19 : compile Try.prog Try.f19 = some code19 := by kernel_rfl
theorem okf19 : okFn Try.prog 19 = true := by kernel_rfl
-- 20: corebank/corebankref46.Withdraw
def code20 : FCode := ⟨3, [.tmp 6, .tmp 7],
 (.seq (.s [.as 6 (.c (.ow 25 [])), .as 7 (.c (.i .i64 0))] [])
 (.seq (.q [(8, (.op (.call false 23) [(.sl 0), (.sl 1)]))])
 (.seq (.seq (.q [(13, (.op (.bin .lss) [(.sl 8), (.k (.i .i64 0))]))])
 (.cond (.sl 13) (.seq (.s [.as 6 (.c (.ow 25 [])), .as 7 (.c (.i .i64 11))] [])
 (.ret [6, 7])) .skip))
 (.seq (.seq (.q [(16, (.op (.un .not) [(.op (.call false 27) [(.sl 2)])]))])
 (.cond (.sl 16) (.seq (.s [.as 6 (.c (.ow 25 [])), .as 7 (.c (.i .i64 1))] [])
 (.ret [6, 7])) .skip))
 (.seq (.s [.mv 17 (.t 0), .mv 18 (.t 8), .mv 19 (.t 0), .mv 20 (.t 8), .ix 21 3 (.t 19) (.t 20), .fa 22 1 1 (.t 21), .q 23 (.ld 1 false) [(.t 22)], .mv 24 (.t 2), .q 25 (.bin .andNot) [(.t 23), (.t 24)], .call (some 26) 30 [(.t 17), (.t 18), (.t 25)], .as 6 (.t 26), .as 7 (.c (.i .i64 0))] [17, 18, 19, 20, 21, 22, 23, 24, 25, 26])
 (.ret [6, 7]))))))⟩
theorem comp20 : compile Try.prog Try.f20 = some code20 := by kernel_rfl
theorem okf20 : okFn Try.prog 20 = true := by kernel_rfl
-- 21: corebank/corebankref46.SameAll
def body21_1 : C :=
 (.seq (.seq (.q [(14, (.op (.bin .lss) [(.sl 5), (.op .len [(.sl 0)])]))])
 (.cond (.sl 14) .skip (.exit 0 [])))
 (.seq (.blk 1 (.seq (.q [(25, (.op (.eqa true [2, 1, 1]) [(.op (.ld 3 true) [(.op (.ix 3) [(.sl 0), (.sl 5)])]), (.op (.ld 3 true) [(.op (.ix 3) [(.sl 1), (.sl 5)])])]))])
 (.cond (.sl 25) (.seq (.q [(4, (.k (.b false)))])
 (.ret [4])) .skip)))
 (.q [(5, (.op (.bin .add) [(.sl 5), (.k (.i .i64 1))]))])))
def code21 : FCode := ⟨2, [.tmp 4],
 (.seq (.q [(4, (.k (.b false)))])
 (.seq (.seq (.q [(10, (.op (.bin .neq) [(.op .len [(.sl 0)]), (.op .len [(.sl 1)])]))])
 (.cond (.sl 10) (.seq (.q [(4, (.k (.b false)))])
 (.ret [4])) .skip))
 (.seq (.seq (.q [(5, (.k (.i .i64 0)))])
 (.blk 0 (.loop [0, 1, 5] body21_1)))
 (.seq (.q [(4, (.k (.b true)))])
 (.ret [4])))))⟩
theorem comp21 : compile Try.prog Try.f21 = some code21 := by kernel_rfl
theorem okf21 : okFn Try.prog 21 = true := by kernel_rfl
-- 22: corebank/access.index
def code22 : FCode := ⟨2, [.tmp 4],
 (.seq (.s [.box 3 (.t 1), .as 4 (.c (.i .i64 0))] [])
 (.seq (.s [.mv 5 (.t 0), .mkf 6 (.func 33) 0 [(.t 3)], .call (some 7) 32 [(.t 5), (.t 6)], .as 4 (.t 7)] [5, 6, 7])
 (.ret [4])))⟩
theorem comp22 : compile Try.prog Try.f22 = some code22 := by kernel_rfl
theorem okf22 : okFn Try.prog 22 = true := by kernel_rfl
-- 23: corebank/corebankref46.index
def body23_1 : C :=
 (.seq (.seq (.q [(9, (.op (.bin .lss) [(.sl 5), (.op .len [(.sl 0)])]))])
 (.cond (.sl 9) .skip (.exit 0 [])))
 (.seq (.blk 1 (.seq (.q [(18, (.op (.bin .eql) [(.op (.ld 1 false) [(.op (.fa 0 1) [(.op (.ix 3) [(.sl 0), (.sl 5)])])]), (.sl 1)]))])
 (.cond (.sl 18) (.seq (.q [(4, (.sl 5))])
 (.ret [4])) .skip)))
 (.q [(5, (.op (.bin .add) [(.sl 5), (.k (.i .i64 1))]))])))
def code23 : FCode := ⟨2, [.tmp 4],
 (.seq (.q [(4, (.k (.i .i64 0)))])
 (.seq (.seq (.q [(5, (.k (.i .i64 0)))])
 (.blk 0 (.loop [0, 1, 5] body23_1)))
 (.seq (.q [(4, (.k (.i .i64 (-1))))])
 (.ret [4]))))⟩
theorem comp23 : compile Try.prog Try.f23 = some code23 := by kernel_rfl
theorem okf23 : okFn Try.prog 23 = true := by kernel_rfl
-- 24: corebank/access.name
def body24_1 : C :=
 (.seq (.q [(9, (.op (.bin .lss) [(.sl 8), (.sl 7)]))])
 (.seq (.cond (.sl 9) .skip (.exit 0 [0]))
 (.seq (.blk 1 (.seq (.q [(3, (.sl 8))])
 (.seq (.q [(4, (.op .idx [(.sl 0), (.sl 3)]))])
 (.seq (.q [(5, (.ite (.op (.bin .geq) [(.sl 4), (.k (.i .u8 97))]) (.op (.bin .leq) [(.sl 4), (.k (.i .u8 122))]) (.k (.b false))))])
 (.seq (.q [(37, (.ite (.op (.un .not) [(.sl 5)]) (.ite (.op (.bin .eql) [(.sl 3), (.k (.i .i64 0))]) (.k (.b true)) (.ite (.op (.bin .neq) [(.sl 4), (.k (.i .u8 95))]) (.ite (.op (.bin .lss) [(.sl 4), (.k (.i .u8 48))]) (.k (.b true)) (.op (.bin .gtr) [(.sl 4), (.k (.i .u8 57))])) (.k (.b false)))) (.k (.b false))))])
 (.cond (.sl 37) (.seq (.q [(2, (.k (.b false)))])
 (.ret [2])) .skip))))))
 (.q [(8, (.op (.bin .add) [(.sl 8), (.k (.i .i64 1))]))]))))
def code24 : FCode := ⟨1, [.tmp 2],
 (.seq (.q [(2, (.k (.b false)))])
 (.seq (.seq (.q [(7, (.op .slen [(.sl 0)])), (8, (.k (.i .i64 0)))])
 (.blk 0 (.loop [0, 7, 8] body24_1)))
 (.seq (.q [(2, (.ite (.op (.bin .geq) [(.op .slen [(.sl 0)]), (.k (.i .i64 1))]) (.op (.bin .leq) [(.op .slen [(.sl 0)]), (.k (.i .i64 16))]) (.k (.b false))))])
 (.ret [2]))))⟩
theorem comp24 : compile Try.prog Try.f24 = some code24 := by kernel_rfl
theorem okf24 : okFn Try.prog 24 = true := by kernel_rfl
-- 25: corebank/corebankref07.Name
def body25_1 : C :=
 (.seq (.seq (.q [(25, (.op (.bin .lss) [(.sl 3), (.op .slen [(.sl 0)])]))])
 (.cond (.sl 25) .skip (.exit 0 [])))
 (.seq (.blk 1 (.seq (.q [(55, (.ite (.ite (.ite (.op (.bin .lss) [(.op .idx [(.sl 0), (.sl 3)]), (.k (.i .u8 97))]) (.k (.b true)) (.op (.bin .gtr) [(.op .idx [(.sl 0), (.sl 3)]), (.k (.i .u8 122))])) (.ite (.op (.bin .lss) [(.op .idx [(.sl 0), (.sl 3)]), (.k (.i .u8 48))]) (.k (.b true)) (.op (.bin .gtr) [(.op .idx [(.sl 0), (.sl 3)]), (.k (.i .u8 57))])) (.k (.b false))) (.op (.bin .neq) [(.op .idx [(.sl 0), (.sl 3)]), (.k (.i .u8 95))]) (.k (.b false))))])
 (.cond (.sl 55) (.seq (.q [(2, (.k (.b false)))])
 (.ret [2])) .skip)))
 (.q [(3, (.op (.bin .add) [(.sl 3), (.k (.i .i64 1))]))])))
def code25 : FCode := ⟨1, [.tmp 2],
 (.seq (.q [(2, (.k (.b false)))])
 (.seq (.seq (.q [(21, (.ite (.ite (.ite (.op (.bin .lss) [(.op .slen [(.sl 0)]), (.k (.i .i64 1))]) (.k (.b true)) (.op (.bin .gtr) [(.op .slen [(.sl 0)]), (.k (.i .i64 16))])) (.k (.b true)) (.op (.bin .lss) [(.op .idx [(.sl 0), (.k (.i .i64 0))]), (.k (.i .u8 97))])) (.k (.b true)) (.op (.bin .gtr) [(.op .idx [(.sl 0), (.k (.i .i64 0))]), (.k (.i .u8 122))])))])
 (.cond (.sl 21) (.seq (.q [(2, (.k (.b false)))])
 (.ret [2])) .skip))
 (.seq (.seq (.q [(3, (.k (.i .i64 0)))])
 (.blk 0 (.loop [0, 3] body25_1)))
 (.seq (.q [(2, (.k (.b true)))])
 (.ret [2])))))⟩
theorem comp25 : compile Try.prog Try.f25 = some code25 := by kernel_rfl
theorem okf25 : okFn Try.prog 25 = true := by kernel_rfl
-- 26: corebank/access.known
def code26 : FCode := ⟨1, [.tmp 2],
 (.seq (.q [(2, (.k (.b false)))])
 (.seq (.q [(2, (.ite (.op (.bin .geq) [(.sl 0), (.k (.i .i64 1))]) (.op (.bin .leq) [(.sl 0), (.k (.i .i64 127))]) (.k (.b false))))])
 (.ret [2])))⟩
theorem comp26 : compile Try.prog Try.f26 = some code26 := by kernel_rfl
theorem okf26 : okFn Try.prog 26 = true := by kernel_rfl
-- 27: corebank/corebankref46.right
def code27 : FCode := ⟨1, [.tmp 2],
 (.seq (.q [(2, (.k (.b false)))])
 (.seq (.q [(2, (.ite (.op (.bin .geq) [(.sl 0), (.k (.i .i64 1))]) (.op (.bin .leq) [(.sl 0), (.k (.i .i64 127))]) (.k (.b false))))])
 (.ret [2])))⟩
theorem comp27 : compile Try.prog Try.f27 = some code27 := by kernel_rfl
theorem okf27 : okFn Try.prog 27 = true := by kernel_rfl
-- 28: corebank/access.change
def code28 : FCode := ⟨4, [.tmp 8, .tmp 9],
 (.seq (.s [.as 8 (.c (.ow 25 [])), .as 9 (.c (.i .i64 0))] [])
 (.seq (.q [(10, (.op (.call false 22) [(.sl 0), (.sl 1)]))])
 (.seq (.blk 0 (.seq (.q [(15, (.op (.bin .lss) [(.sl 10), (.k (.i .i64 0))]))])
 (.cond (.sl 15) (.seq (.s [.as 8 (.c (.ow 25 [])), .as 9 (.c (.i .i64 11))] [])
 (.ret [8, 9])) (.seq (.q [(18, (.op (.un .not) [(.op (.call false 26) [(.sl 2)])]))])
 (.cond (.sl 18) (.seq (.s [.as 8 (.c (.ow 25 [])), .as 9 (.c (.i .i64 1))] [])
 (.ret [8, 9])) .skip)))))
 (.seq (.s [.mv 22 (.t 0), .call (some 23) 34 [(.t 22)], .as 11 (.t 23)] [22, 23])
 (.seq (.s [.mv 24 (.t 11), .mv 25 (.t 10), .mv 26 (.t 3), .mv 27 (.t 11), .mv 28 (.t 10), .ix 29 3 (.t 27) (.t 28), .fa 30 1 1 (.t 29), .q 31 (.ld 1 false) [(.t 30)], .callv (some 32) [(.t 26), (.t 31)], .ix 33 3 (.t 24) (.t 25), .fa 34 1 1 (.t 33), .sto 1 (.t 34) (.t 32)] [24, 25, 26, 27, 28, 29, 30, 31, 32, 33, 34])
 (.seq (.s [.mv 35 (.t 11), .as 8 (.t 35), .as 9 (.c (.i .i64 0))] [35])
 (.ret [8, 9])))))))⟩
theorem comp28 : compile Try.prog Try.f28 = some code28 := by kernel_rfl
theorem okf28 : okFn Try.prog 28 = true := by kernel_rfl
-- 29: corebank/access.Grant$1
def code29 : FCode := ⟨2, [.tmp 3],
 (.seq (.q [(3, (.k (.i .i64 0)))])
 (.seq (.q [(3, (.op (.bin .or) [(.sl 0), (.op (.ld 1 false) [(.sl 1)])]))])
 (.ret [3])))⟩
theorem comp29 : compile Try.prog Try.f29 = some code29 := by kernel_rfl
theorem okf29 : okFn Try.prog 29 = true := by kernel_rfl
-- 30: corebank/corebankref46.changed
def code30 : FCode := ⟨3, [.tmp 6],
 (.seq (.s [.as 6 (.c (.ow 25 []))] [])
 (.seq (.s [.as 7 (.c (.ow 25 []))] [])
 (.seq (.s [.mv 8 (.t 7), .mv 9 (.t 0), .app 10 25 3 32 (.t 8) (.t 9), .as 7 (.t 10)] [8, 9, 10])
 (.seq (.s [.mv 11 (.t 7), .mv 12 (.t 1), .mv 13 (.t 2), .ix 14 3 (.t 11) (.t 12), .fa 15 1 1 (.t 14), .sto 1 (.t 15) (.t 13)] [11, 12, 13, 14, 15])
 (.seq (.s [.mv 16 (.t 7), .as 6 (.t 16)] [16])
 (.ret [6]))))))⟩
theorem comp30 : compile Try.prog Try.f30 = some code30 := by kernel_rfl
theorem okf30 : okFn Try.prog 30 = true := by kernel_rfl
-- 31: corebank/access.Withdraw$1
def code31 : FCode := ⟨2, [.tmp 3],
 (.seq (.q [(3, (.k (.i .i64 0)))])
 (.seq (.q [(3, (.op (.bin .andNot) [(.sl 0), (.op (.ld 1 false) [(.sl 1)])]))])
 (.ret [3])))⟩
theorem comp31 : compile Try.prog Try.f31 = some code31 := by kernel_rfl
theorem okf31 : okFn Try.prog 31 = true := by kernel_rfl
-- 32: slices.IndexFunc[[]corebank/api.User,corebank/api.User]
def body32_1 : C :=
 (.seq (.q [(9, (.op (.bin .lss) [(.sl 8), (.sl 7)]))])
 (.seq (.cond (.sl 9) .skip (.exit 0 []))
 (.seq (.blk 1 (.seq (.q [(5, (.sl 8))])
 (.seq (.q [(16, (.op (.callv false) [(.sl 1), (.op (.ld 3 true) [(.op (.ix 3) [(.sl 0), (.sl 5)])])]))])
 (.cond (.sl 16) (.seq (.q [(4, (.sl 5))])
 (.ret [4])) .skip))))
 (.q [(8, (.op (.bin .add) [(.sl 8), (.k (.i .i64 1))]))]))))
def code32 : FCode := ⟨2, [.tmp 4],
 (.seq (.q [(4, (.k (.i .i64 0)))])
 (.seq (.seq (.q [(7, (.op .len [(.sl 0)])), (8, (.k (.i .i64 0)))])
 (.blk 0 (.loop [0, 1, 7, 8] body32_1)))
 (.seq (.q [(4, (.k (.i .i64 (-1))))])
 (.ret [4]))))⟩
theorem comp32 : compile Try.prog Try.f32 = some code32 := by kernel_rfl
theorem okf32 : okFn Try.prog 32 = true := by kernel_rfl
-- 33: corebank/access.index$1
def code33 : FCode := ⟨2, [.tmp 3],
 (.seq (.s [.box 2 (.t 0), .as 3 (.c (.b false))] [])
 (.seq (.q [(3, (.op (.bin .eql) [(.op (.ld 1 false) [(.op (.fa 0 1) [(.sl 2)])]), (.op (.ld 1 false) [(.sl 1)])]))])
 (.ret [3])))⟩
theorem comp33 : compile Try.prog Try.f33 = some code33 := by kernel_rfl
theorem okf33 : okFn Try.prog 33 = true := by kernel_rfl
end Go.Proofs.Ytonibcnbcnibeaa
