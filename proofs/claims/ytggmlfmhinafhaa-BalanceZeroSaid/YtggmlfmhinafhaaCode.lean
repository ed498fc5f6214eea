/-
  The code of the functions that the laws reach, as the evaluator runs it: printed by a program of ours off the translation, and held against it by the kernel.
-/
import Derived.Test.YtggmlfmhinafhaaOrd
import Derived.Test.YtggmlfmhinafhaaVmN
import Derived.KernelRfl
namespace Go.Proofs.Ytggmlfmhinafhaa
open Go.VM
-- 3: corebank/corebanklaw21.BalanceSums
def code3 : FCode := ⟨2, [.tmp 4],
 (.seq (.s [.box 3 (.t 1), .as 4 (.c (.b false))] [])
 (.seq (.seq (.q [(11, (.op (.un .not) [(.op (.call false 8) [(.sl 0)])]))])
 (.cond (.sl 11) (.seq (.q [(4, (.op (.call false 9) []))])
 (.ret [4])) .skip))
 (.seq (.q [(5, (.op (.ext 0) [(.op (.call false 10) [(.sl 0), (.op (.ld 1 false) [(.op (.fa 0 1) [(.sl 3)])]), (.op (.ld 1 false) [(.op (.fa 1 1) [(.sl 3)])]), (.op (.ld 1 false) [(.op (.fa 2 1) [(.sl 3)])])])])), (6, (.op (.ext 1) [(.op (.call false 10) [(.sl 0), (.op (.ld 1 false) [(.op (.fa 0 1) [(.sl 3)])]), (.op (.ld 1 false) [(.op (.fa 1 1) [(.sl 3)])]), (.op (.ld 1 false) [(.op (.fa 2 1) [(.sl 3)])])])]))])
 (.seq (.q [(7, (.op (.ext 0) [(.op (.call false 11) [(.sl 0), (.op (.ld 1 false) [(.op (.fa 0 1) [(.sl 3)])]), (.op (.ld 1 false) [(.op (.fa 1 1) [(.sl 3)])]), (.op (.ld 1 false) [(.op (.fa 2 1) [(.sl 3)])])])])), (8, (.op (.ext 1) [(.op (.call false 11) [(.sl 0), (.op (.ld 1 false) [(.op (.fa 0 1) [(.sl 3)])]), (.op (.ld 1 false) [(.op (.fa 1 1) [(.sl 3)])]), (.op (.ld 1 false) [(.op (.fa 2 1) [(.sl 3)])])])]))])
 (.seq (.q [(4, (.ite (.ite (.ite (.ite (.op (.bin .eql) [(.op (.call true 12) [(.sl 0), (.op (.ld 1 false) [(.op (.fa 0 1) [(.sl 3)])])]), (.op (.call true 13) [(.sl 0), (.op (.ld 1 false) [(.op (.fa 0 1) [(.sl 3)])])])]) (.op (.bin .eql) [(.op (.call true 14) [(.sl 0), (.op (.ld 1 false) [(.op (.fa 0 1) [(.sl 3)])]), (.op (.ld 1 false) [(.op (.fa 1 1) [(.sl 3)])]), (.op (.ld 1 false) [(.op (.fa 2 1) [(.sl 3)])])]), (.op (.call true 15) [(.sl 0), (.op (.ld 1 false) [(.op (.fa 0 1) [(.sl 3)])]), (.op (.ld 1 false) [(.op (.fa 1 1) [(.sl 3)])]), (.op (.ld 1 false) [(.op (.fa 2 1) [(.sl 3)])])])]) (.k (.b false))) (.op (.bin .eql) [(.sl 5), (.sl 7)]) (.k (.b false))) (.op (.bin .eql) [(.sl 6), (.sl 8)]) (.k (.b false))) (.op (.call true 9) []) (.k (.b false))))])
 (.ret [4]))))))⟩
theorem comp3 : compile Try.prog Try.f3 = some code3 := by kernel_rfl
theorem okf3 : okFn Try.prog 3 = true := by kernel_rfl
-- 4: corebank/corebanklaw21.BalanceDays
def code4 : FCode := ⟨2, [.tmp 4],
 (.seq (.s [.box 3 (.t 1), .as 4 (.c (.b false))] [])
 (.seq (.seq (.q [(7, (.op (.un .not) [(.op (.call false 8) [(.sl 0)])]))])
 (.cond (.sl 7) (.seq (.q [(4, (.op (.call false 9) []))])
 (.ret [4])) .skip))
 (.seq (.q [(4, (.ite (.ite (.op (.call false 16) [(.op (.call false 17) [(.sl 0), (.op (.ld 1 false) [(.op (.fa 0 1) [(.sl 3)])]), (.op (.ld 1 false) [(.op (.fa 1 1) [(.sl 3)])]), (.op (.ld 1 false) [(.op (.fa 2 1) [(.sl 3)])])]), (.op (.call false 18) [(.sl 0), (.op (.ld 1 false) [(.op (.fa 0 1) [(.sl 3)])]), (.op (.ld 1 false) [(.op (.fa 1 1) [(.sl 3)])]), (.op (.ld 1 false) [(.op (.fa 2 1) [(.sl 3)])])])]) (.op (.call false 16) [(.op (.call false 19) [(.sl 0), (.op (.ld 1 false) [(.op (.fa 0 1) [(.sl 3)])])]), (.op (.call false 20) [(.sl 0), (.op (.ld 1 false) [(.op (.fa 0 1) [(.sl 3)])])])]) (.k (.b false))) (.op (.call false 9) []) (.k (.b false))))])
 (.ret [4]))))⟩
theorem comp4 : compile Try.prog Try.f4 = some code4 := by kernel_rfl
theorem okf4 : okFn Try.prog 4 = true := by kernel_rfl
-- 5: corebank/corebanklaw21.BalanceTrial
def code5 : FCode := ⟨1, [.tmp 2],
 (.seq (.q [(2, (.k (.b false)))])
 (.seq (.seq (.q [(5, (.op (.un .not) [(.op (.call false 8) [(.sl 0)])]))])
 (.cond (.sl 5) (.seq (.q [(2, (.op (.call false 9) []))])
 (.ret [2])) .skip))
 (.seq (.q [(2, (.ite (.op (.call false 21) [(.op (.call false 22) [(.sl 0)]), (.op (.call false 23) [(.sl 0)])]) (.op (.call false 9) []) (.k (.b false))))])
 (.ret [2]))))⟩
theorem comp5 : compile Try.prog Try.f5 = some code5 := by kernel_rfl
theorem okf5 : okFn Try.prog 5 = true := by kernel_rfl
-- 6: corebank/corebanklaw21.BalanceAdds
def body6_1 : C :=
 (.seq (.seq (.q [(102, (.op (.bin .lss) [(.sl 14), (.op .len [(.sl 0)])]))])
 (.cond (.sl 102) .skip (.exit 2 [0, 5, 11, 12, 13])))
 (.seq (.blk 3 (.seq (.q [(114, (.op (.bin .eql) [(.op (.ld 1 false) [(.op (.fa 2 1) [(.op (.ix 10) [(.sl 0), (.sl 14)])])]), (.op (.bin .add) [(.op (.ld 1 false) [(.op (.fa 1 1) [(.sl 5)])]), (.sl 12)])]))])
 (.cond (.sl 114) (.q [(13, (.op (.bin .add) [(.sl 13), (.op (.call true 12) [(.op (.slc 10 true true) [(.sl 0), (.sl 14), (.op (.bin .add) [(.sl 14), (.k (.i .i64 1))])]), (.op (.ld 1 false) [(.op (.fa 0 1) [(.sl 5)])])])]))]) .skip)))
 (.q [(14, (.op (.bin .add) [(.sl 14), (.k (.i .i64 1))]))])))
def body6_2 : C :=
 (.seq (.seq (.q [(96, (.op (.bin .lss) [(.sl 12), (.op .len [(.sl 11)])]))])
 (.cond (.sl 96) .skip (.exit 0 [])))
 (.seq (.blk 1 (.seq (.q [(13, (.k (.i .i64 0)))])
 (.seq (.seq (.q [(14, (.k (.i .i64 0)))])
 (.blk 2 (.loop [0, 5, 11, 12, 13, 14] body6_1)))
 (.seq (.q [(136, (.op (.bin .neq) [(.op (.bin .sub) [(.op (.ld 1 false) [(.op (.ix 1) [(.sl 11), (.sl 12)])]), (.op (.ld 1 false) [(.op (.ix 1) [(.sl 11), (.op (.bin .sub) [(.sl 12), (.k (.i .i64 1))])])])]), (.sl 13)]))])
 (.cond (.sl 136) (.seq (.q [(6, (.k (.b false)))])
 (.ret [6])) .skip)))))
 (.q [(12, (.op (.bin .add) [(.sl 12), (.k (.i .i64 1))]))])))
def code6 : FCode := ⟨3, [.tmp 6],
 (.seq (.s [.box 5 (.t 2), .as 6 (.c (.b false))] [])
 (.seq (.seq (.q [(22, (.ite (.op (.un .not) [(.op (.call false 8) [(.sl 0)])]) (.k (.b true)) (.op (.un .not) [(.op (.call false 8) [(.sl 1)])])))])
 (.cond (.sl 22) (.seq (.q [(6, (.op (.call false 9) []))])
 (.ret [6])) .skip))
 (.seq (.s [.bsl 24 41 10 [], .mv 25 (.t 0), .app 26 41 10 112 (.t 24) (.t 25), .as 7 (.t 26)] [24, 25, 26])
 (.seq (.s [.mv 27 (.t 7), .mv 28 (.t 1), .app 29 41 10 112 (.t 27) (.t 28), .as 7 (.t 29)] [27, 28, 29])
 (.seq (.q [(8, (.op (.call false 12) [(.sl 0), (.op (.ld 1 false) [(.op (.fa 0 1) [(.sl 5)])])]))])
 (.seq (.seq (.q [(72, (.ite (.op (.bin .neq) [(.op (.call true 12) [(.sl 7), (.op (.ld 1 false) [(.op (.fa 0 1) [(.sl 5)])])]), (.op (.bin .add) [(.sl 8), (.op (.call true 12) [(.sl 1), (.op (.ld 1 false) [(.op (.fa 0 1) [(.sl 5)])])])])]) (.k (.b true)) (.op (.bin .neq) [(.op (.call true 14) [(.sl 7), (.op (.ld 1 false) [(.op (.fa 0 1) [(.sl 5)])]), (.op (.ld 1 false) [(.op (.fa 1 1) [(.sl 5)])]), (.op (.ld 1 false) [(.op (.fa 2 1) [(.sl 5)])])]), (.op (.bin .add) [(.op (.call true 14) [(.sl 0), (.op (.ld 1 false) [(.op (.fa 0 1) [(.sl 5)])]), (.op (.ld 1 false) [(.op (.fa 1 1) [(.sl 5)])]), (.op (.ld 1 false) [(.op (.fa 2 1) [(.sl 5)])])]), (.op (.call true 14) [(.sl 1), (.op (.ld 1 false) [(.op (.fa 0 1) [(.sl 5)])]), (.op (.ld 1 false) [(.op (.fa 1 1) [(.sl 5)])]), (.op (.ld 1 false) [(.op (.fa 2 1) [(.sl 5)])])])])])))])
 (.cond (.sl 72) (.seq (.q [(6, (.k (.b false)))])
 (.ret [6])) .skip))
 (.seq (.q [(9, (.op (.ext 0) [(.op (.call false 10) [(.sl 0), (.op (.ld 1 false) [(.op (.fa 0 1) [(.sl 5)])]), (.k (.i .i64 (-9223372036854775808))), (.k (.i .i64 9223372036854775807))])])), (10, (.op (.ext 1) [(.op (.call false 10) [(.sl 0), (.op (.ld 1 false) [(.op (.fa 0 1) [(.sl 5)])]), (.k (.i .i64 (-9223372036854775808))), (.k (.i .i64 9223372036854775807))])]))])
 (.seq (.s [.mv 80 (.t 0), .fa 81 0 1 (.t 5), .q 82 (.ld 1 false) [(.t 81)], .fa 83 1 1 (.t 5), .q 84 (.ld 1 false) [(.t 83)], .fa 85 2 1 (.t 5), .q 86 (.ld 1 false) [(.t 85)], .call (some 87) 17 [(.t 80), (.t 82), (.t 84), (.t 86)], .as 11 (.t 87)] [80, 81, 82, 83, 84, 85, 86, 87])
 (.seq (.seq (.q [(92, (.op (.bin .neq) [(.sl 8), (.op (.bin .sub) [(.sl 10), (.sl 9)])]))])
 (.cond (.sl 92) (.seq (.q [(6, (.k (.b false)))])
 (.ret [6])) .skip))
 (.seq (.seq (.q [(12, (.k (.i .i64 1)))])
 (.blk 0 (.loop [0, 5, 11, 12] body6_2)))
 (.seq (.q [(6, (.op (.call false 9) []))])
 (.ret [6]))))))))))))⟩
theorem comp6 : compile Try.prog Try.f6 = some code6 := by kernel_rfl
theorem okf6 : okFn Try.prog 6 = true := by kernel_rfl
-- 7: corebank/corebanklaw21.BalanceZero
def body7_1 : C :=
 (.seq (.seq (.q [(37, (.op (.bin .lss) [(.sl 6), (.op .len [(.op (.ld 1 false) [(.op (.fa 8 1) [(.op (.ix 10) [(.sl 0), (.sl 4)])])])])]))])
 (.cond (.sl 37) .skip (.exit 2 [0, 3, 4, 5])))
 (.seq (.blk 3 (.seq (.s [.mv 40 (.t 0), .mv 41 (.t 4), .ix 42 10 (.t 40) (.t 41), .fa 43 8 1 (.t 42), .q 44 (.ld 1 false) [(.t 43)], .mv 45 (.t 6), .ix 46 3 (.t 44) (.t 45), .q 47 (.ld 3 true) [(.t 46)], .alo 7 [(.i .i64 0), (.i .i64 0), (.s [])], .sto 3 (.t 7) (.t 47)] [40, 41, 42, 43, 44, 45, 46, 47])
 (.s [.mv 48 (.t 5), .fa 49 0 1 (.t 7), .q 50 (.ld 1 false) [(.t 49)], .fa 51 1 1 (.t 7), .q 52 (.ld 1 false) [(.t 51)], .q 53 (.un .neg) [(.t 52)], .fa 54 2 1 (.t 7), .q 55 (.ld 1 false) [(.t 54)], .bld 56 [(.i .i64 0), (.i .i64 0), (.s [])] [(0, 1), (1, 1), (2, 1)] [(.t 50), (.t 53), (.t 55)], .bsl 57 44 3 [(.t 56)], .app 58 44 3 32 (.t 48) (.t 57), .as 5 (.t 58)] [48, 49, 50, 51, 52, 53, 54, 55, 56, 57, 58])))
 (.q [(6, (.op (.bin .add) [(.sl 6), (.k (.i .i64 1))]))])))
def body7_2 : C :=
 (.seq (.seq (.q [(27, (.op (.bin .lss) [(.sl 4), (.op .len [(.sl 0)])]))])
 (.cond (.sl 27) .skip (.exit 0 [0, 3])))
 (.seq (.blk 1 (.seq (.s [.as 5 (.c (.ow 44 []))] [])
 (.seq (.seq (.q [(6, (.k (.i .i64 0)))])
 (.blk 2 (.loop [0, 3, 4, 5, 6] body7_1)))
 (.s [.mv 59 (.t 3), .mv 60 (.t 5), .bld 61 [(.i .i64 0), (.i .i64 0), (.i .i64 0), (.i .i64 0), (.i .i64 0), (.i .i64 0), (.s []), (.s []), (.l []), (.i .u64 0)] [(8, 1)] [(.t 60)], .bsl 62 41 10 [(.t 61)], .app 63 41 10 112 (.t 59) (.t 62), .as 3 (.t 63)] [59, 60, 61, 62, 63]))))
 (.q [(4, (.op (.bin .add) [(.sl 4), (.k (.i .i64 1))]))])))
def body7_3 : C :=
 (.seq (.seq (.q [(79, (.op (.bin .lss) [(.sl 11), (.op .len [(.sl 8)])]))])
 (.cond (.sl 79) .skip (.exit 6 [0, 8, 9, 10])))
 (.seq (.blk 7 (.seq (.q [(92, (.op (.bin .eql) [(.op (.ld 1 false) [(.op (.fa 0 1) [(.op (.ix 3) [(.sl 8), (.sl 11)])])]), (.op (.ld 1 false) [(.op (.fa 0 1) [(.op (.ix 3) [(.sl 8), (.sl 9)])])])]))])
 (.cond (.sl 92) (.q [(10, (.op (.bin .sub) [(.sl 10), (.op (.ld 1 false) [(.op (.fa 1 1) [(.op (.ix 3) [(.sl 8), (.sl 11)])])])]))]) .skip)))
 (.q [(11, (.op (.bin .add) [(.sl 11), (.k (.i .i64 1))]))])))
def body7_4 : C :=
 (.seq (.seq (.q [(73, (.op (.bin .lss) [(.sl 9), (.op .len [(.sl 8)])]))])
 (.cond (.sl 73) .skip (.exit 4 [])))
 (.seq (.blk 5 (.seq (.q [(10, (.k (.i .i64 0)))])
 (.seq (.seq (.q [(11, (.k (.i .i64 0)))])
 (.blk 6 (.loop [0, 8, 9, 10, 11] body7_3)))
 (.seq (.seq (.q [(116, (.ite (.op (.bin .eql) [(.op (.ld 1 false) [(.op (.fa 1 1) [(.op (.ix 3) [(.sl 8), (.sl 9)])])]), (.k (.i .i64 0))]) (.k (.b true)) (.op (.bin .neq) [(.sl 10), (.op (.call false 12) [(.sl 0), (.op (.ld 1 false) [(.op (.fa 0 1) [(.op (.ix 3) [(.sl 8), (.sl 9)])])])])])))])
 (.cond (.sl 116) (.seq (.q [(2, (.k (.b false)))])
 (.ret [2])) .skip))
 (.seq (.q [(160, (.ite (.op (.bin .gtr) [(.sl 9), (.k (.i .i64 0))]) (.ite (.op (.bin .lss) [(.op (.ld 1 false) [(.op (.fa 0 1) [(.op (.ix 3) [(.sl 8), (.sl 9)])])]), (.op (.ld 1 false) [(.op (.fa 0 1) [(.op (.ix 3) [(.sl 8), (.op (.bin .sub) [(.sl 9), (.k (.i .i64 1))])])])])]) (.k (.b true)) (.ite (.op (.bin .eql) [(.op (.ld 1 false) [(.op (.fa 0 1) [(.op (.ix 3) [(.sl 8), (.sl 9)])])]), (.op (.ld 1 false) [(.op (.fa 0 1) [(.op (.ix 3) [(.sl 8), (.op (.bin .sub) [(.sl 9), (.k (.i .i64 1))])])])])]) (.op (.bin .leq) [(.op (.ld 1 false) [(.op (.fa 2 1) [(.op (.ix 3) [(.sl 8), (.sl 9)])])]), (.op (.ld 1 false) [(.op (.fa 2 1) [(.op (.ix 3) [(.sl 8), (.op (.bin .sub) [(.sl 9), (.k (.i .i64 1))])])])])]) (.k (.b false)))) (.k (.b false))))])
 (.cond (.sl 160) (.seq (.q [(2, (.k (.b false)))])
 (.ret [2])) .skip))))))
 (.q [(9, (.op (.bin .add) [(.sl 9), (.k (.i .i64 1))]))])))
def code7 : FCode := ⟨1, [.tmp 2],
 (.seq (.q [(2, (.k (.b false)))])
 (.seq (.seq (.q [(19, (.ite (.op (.bin .gtr) [(.op .len [(.sl 0)]), (.k (.i .i64 50))]) (.k (.b true)) (.op (.un .not) [(.op (.call false 8) [(.sl 0)])])))])
 (.cond (.sl 19) (.seq (.q [(2, (.op (.call false 9) []))])
 (.ret [2])) .skip))
 (.seq (.s [.bsl 21 41 10 [], .mv 22 (.t 0), .app 23 41 10 112 (.t 21) (.t 22), .as 3 (.t 23)] [21, 22, 23])
 (.seq (.seq (.q [(4, (.k (.i .i64 0)))])
 (.blk 0 (.loop [0, 3, 4] body7_2)))
 (.seq (.seq (.q [(67, (.op (.bin .neq) [(.op .len [(.op (.call false 22) [(.sl 3)])]), (.k (.i .i64 0))]))])
 (.cond (.sl 67) (.seq (.q [(2, (.k (.b false)))])
 (.ret [2])) .skip))
 (.seq (.s [.mv 68 (.t 0), .call (some 69) 22 [(.t 68)], .as 8 (.t 69)] [68, 69])
 (.seq (.seq (.q [(9, (.k (.i .i64 0)))])
 (.blk 4 (.loop [0, 8, 9] body7_4)))
 (.seq (.q [(2, (.op (.call false 9) []))])
 (.ret [2])))))))))⟩
theorem comp7 : compile Try.prog Try.f7 = some code7 := by kernel_rfl
theorem okf7 : okFn Try.prog 7 = true := by kernel_rfl
-- 8: corebank/corebanklaw21.few
def body8_1 : C :=
 (.seq (.seq (.q [(10, (.op (.bin .lss) [(.sl 3), (.op .len [(.sl 0)])]))])
 (.cond (.sl 10) .skip (.exit 0 [])))
 (.seq (.blk 1 (.seq (.q [(19, (.op (.bin .gtr) [(.op .len [(.op (.ld 1 false) [(.op (.fa 8 1) [(.op (.ix 10) [(.sl 0), (.sl 3)])])])]), (.k (.i .i64 20))]))])
 (.cond (.sl 19) (.seq (.q [(2, (.k (.b false)))])
 (.ret [2])) .skip)))
 (.q [(3, (.op (.bin .add) [(.sl 3), (.k (.i .i64 1))]))])))
def code8 : FCode := ⟨1, [.tmp 2],
 (.seq (.q [(2, (.k (.b false)))])
 (.seq (.seq (.q [(6, (.op (.bin .gtr) [(.op .len [(.sl 0)]), (.k (.i .i64 100))]))])
 (.cond (.sl 6) (.seq (.q [(2, (.k (.b false)))])
 (.ret [2])) .skip))
 (.seq (.seq (.q [(3, (.k (.i .i64 0)))])
 (.blk 0 (.loop [0, 3] body8_1)))
 (.seq (.q [(2, (.k (.b true)))])
 (.ret [2])))))⟩
theorem comp8 : compile Try.prog Try.f8 = some code8 := by kernel_rfl
theorem okf8 : okFn Try.prog 8 = true := by kernel_rfl
-- 9: corebank/corebanklaw21.lives
def code9 : FCode := ⟨0, [.tmp 0],
 (.seq (.q [(0, (.k (.b false)))])
 (.seq (.s [.call (some 4) 24 [], .as 1 (.t 4)] [4])
 (.seq (.q [(2, (.op (.ext 0) [(.op (.call false 10) [(.sl 1), (.k (.i .i64 1000)), (.k (.i .i64 5)), (.k (.i .i64 6))])])), (3, (.op (.ext 1) [(.op (.call false 10) [(.sl 1), (.k (.i .i64 1000)), (.k (.i .i64 5)), (.k (.i .i64 6))])]))])
 (.seq (.q [(0, (.ite (.ite (.ite (.ite (.ite (.ite (.op (.bin .eql) [(.op (.call false 12) [(.sl 1), (.k (.i .i64 1000))]), (.k (.i .i64 50))]) (.op (.bin .eql) [(.op (.call false 14) [(.sl 1), (.k (.i .i64 1000)), (.k (.i .i64 5)), (.k (.i .i64 9))]), (.k (.i .i64 70))]) (.k (.b false))) (.op (.call false 16) [(.op (.call false 17) [(.sl 1), (.k (.i .i64 1000)), (.k (.i .i64 2)), (.k (.i .i64 7))]), (.op (.bsl 1) [(.k (.i .i64 0)), (.k (.i .i64 70)), (.k (.i .i64 70)), (.k (.i .i64 70)), (.k (.i .i64 70)), (.k (.i .i64 50))])]) (.k (.b false))) (.op (.bin .eql) [(.sl 2), (.k (.i .i64 20))]) (.k (.b false))) (.op (.bin .eql) [(.sl 3), (.k (.i .i64 70))]) (.k (.b false))) (.op (.call false 21) [(.op (.call false 22) [(.sl 1)]), (.op (.bsl 3) [(.op (.bld [(.i .i64 0), (.i .i64 0), (.s [])] [(0, 1), (1, 1), (2, 1)]) [(.k (.i .i64 101)), (.k (.i .i64 50)), (.k (.s [69, 85, 82]))]), (.op (.bld [(.i .i64 0), (.i .i64 0), (.s [])] [(0, 1), (1, 1), (2, 1)]) [(.k (.i .i64 1000)), (.k (.i .i64 (-50))), (.k (.s [69, 85, 82]))])])]) (.k (.b false))) (.op (.call false 16) [(.op (.call false 19) [(.sl 1), (.k (.i .i64 1000))]), (.op (.bsl 1) [(.k (.i .i64 3)), (.k (.i .i64 7))])]) (.k (.b false))))])
 (.ret [0])))))⟩
theorem comp9 : compile Try.prog Try.f9 = some code9 := by kernel_rfl
theorem okf9 : okFn Try.prog 9 = true := by kernel_rfl
-- 11: corebank/corebankref21.Turnover
def body11_1 : C :=
 (.seq (.seq (.q [(44, (.op (.bin .lss) [(.sl 13), (.op .len [(.op (.ld 1 false) [(.op (.fa 8 1) [(.op (.ix 10) [(.sl 0), (.sl 12)])])])])]))])
 (.cond (.sl 44) .skip (.exit 2 [0, 1, 2, 3, 10, 11, 12])))
 (.seq (.blk 3 (.seq (.s [.mv 47 (.t 0), .mv 48 (.t 12), .ix 49 10 (.t 47) (.t 48), .fa 50 8 1 (.t 49), .q 51 (.ld 1 false) [(.t 50)], .mv 52 (.t 13), .ix 53 3 (.t 51) (.t 52), .q 54 (.ld 3 true) [(.t 53)], .alo 14 [(.i .i64 0), (.i .i64 0), (.s [])], .sto 3 (.t 14) (.t 54)] [47, 48, 49, 50, 51, 52, 53, 54])
 (.seq (.seq (.q [(63, (.ite (.op (.bin .eql) [(.op (.ld 1 false) [(.op (.fa 0 1) [(.sl 14)])]), (.sl 1)]) (.op (.bin .gtr) [(.op (.ld 1 false) [(.op (.fa 1 1) [(.sl 14)])]), (.k (.i .i64 0))]) (.k (.b false))))])
 (.cond (.sl 63) (.q [(10, (.op (.bin .add) [(.sl 10), (.op (.ld 1 false) [(.op (.fa 1 1) [(.sl 14)])])]))]) .skip))
 (.seq (.q [(76, (.ite (.op (.bin .eql) [(.op (.ld 1 false) [(.op (.fa 0 1) [(.sl 14)])]), (.sl 1)]) (.op (.bin .lss) [(.op (.ld 1 false) [(.op (.fa 1 1) [(.sl 14)])]), (.k (.i .i64 0))]) (.k (.b false))))])
 (.cond (.sl 76) (.q [(11, (.op (.bin .sub) [(.sl 11), (.op (.ld 1 false) [(.op (.fa 1 1) [(.sl 14)])])]))]) .skip)))))
 (.q [(13, (.op (.bin .add) [(.sl 13), (.k (.i .i64 1))]))])))
def body11_2 : C :=
 (.seq (.seq (.q [(18, (.op (.bin .lss) [(.sl 12), (.op .len [(.sl 0)])]))])
 (.cond (.sl 18) .skip (.exit 0 [10, 11])))
 (.seq (.blk 1 (.seq (.seq (.q [(36, (.ite (.op (.bin .lss) [(.op (.ld 1 false) [(.op (.fa 1 1) [(.op (.ix 10) [(.sl 0), (.sl 12)])])]), (.sl 2)]) (.k (.b true)) (.op (.bin .gtr) [(.op (.ld 1 false) [(.op (.fa 1 1) [(.op (.ix 10) [(.sl 0), (.sl 12)])])]), (.sl 3)])))])
 (.cond (.sl 36) (.exit 1 [0, 1, 2, 3, 10, 11, 12]) .skip))
 (.seq (.q [(13, (.k (.i .i64 0)))])
 (.blk 2 (.loop [0, 1, 2, 3, 10, 11, 12, 13] body11_1)))))
 (.q [(12, (.op (.bin .add) [(.sl 12), (.k (.i .i64 1))]))])))
def code11 : FCode := ⟨4, [.tmp 8, .tmp 9],
 (.seq (.q [(8, (.k (.i .i64 0))), (9, (.k (.i .i64 0)))])
 (.seq (.q [(10, (.k (.i .i64 0))), (11, (.k (.i .i64 0)))])
 (.seq (.seq (.q [(12, (.k (.i .i64 0)))])
 (.blk 0 (.loop [0, 1, 2, 3, 10, 11, 12] body11_2)))
 (.seq (.q [(8, (.sl 10)), (9, (.sl 11))])
 (.ret [8, 9])))))⟩
theorem comp11 : compile Try.prog Try.f11 = some code11 := by kernel_rfl
theorem okf11 : okFn Try.prog 11 = true := by kernel_rfl
-- 13: corebank/corebankref21.Of
def body13_1 : C :=
 (.seq (.seq (.q [(10, (.op (.bin .lss) [(.sl 6), (.op .len [(.sl 0)])]))])
 (.cond (.sl 10) .skip (.exit 0 [5])))
 (.seq (.blk 1 (.q [(5, (.op (.bin .add) [(.sl 5), (.op (.call false 26) [(.op (.ld 10 true) [(.op (.ix 10) [(.sl 0), (.sl 6)])]), (.sl 1)])]))]))
 (.q [(6, (.op (.bin .add) [(.sl 6), (.k (.i .i64 1))]))])))
def code13 : FCode := ⟨2, [.tmp 4],
 (.seq (.q [(4, (.k (.i .i64 0)))])
 (.seq (.q [(5, (.k (.i .i64 0)))])
 (.seq (.seq (.q [(6, (.k (.i .i64 0)))])
 (.blk 0 (.loop [0, 1, 5, 6] body13_1)))
 (.seq (.q [(4, (.sl 5))])
 (.ret [4])))))⟩
theorem comp13 : compile Try.prog Try.f13 = some code13 := by kernel_rfl
theorem okf13 : okFn Try.prog 13 = true := by kernel_rfl
-- 15: corebank/corebankref21.At
def body15_1 : C :=
 (.seq (.seq (.q [(14, (.op (.bin .lss) [(.sl 10), (.op .len [(.sl 0)])]))])
 (.cond (.sl 14) .skip (.exit 0 [9])))
 (.seq (.blk 1 (.seq (.q [(32, (.ite (.op (.bin .leq) [(.op (.ld 1 false) [(.op (.fa 1 1) [(.op (.ix 10) [(.sl 0), (.sl 10)])])]), (.sl 2)]) (.op (.bin .leq) [(.op (.ld 1 false) [(.op (.fa 2 1) [(.op (.ix 10) [(.sl 0), (.sl 10)])])]), (.sl 3)]) (.k (.b false))))])
 (.cond (.sl 32) (.q [(9, (.op (.bin .add) [(.sl 9), (.op (.call false 26) [(.op (.ld 10 true) [(.op (.ix 10) [(.sl 0), (.sl 10)])]), (.sl 1)])]))]) .skip)))
 (.q [(10, (.op (.bin .add) [(.sl 10), (.k (.i .i64 1))]))])))
def code15 : FCode := ⟨4, [.tmp 8],
 (.seq (.q [(8, (.k (.i .i64 0)))])
 (.seq (.q [(9, (.k (.i .i64 0)))])
 (.seq (.seq (.q [(10, (.k (.i .i64 0)))])
 (.blk 0 (.loop [0, 1, 2, 3, 9, 10] body15_1)))
 (.seq (.q [(8, (.sl 9))])
 (.ret [8])))))⟩
theorem comp15 : compile Try.prog Try.f15 = some code15 := by kernel_rfl
theorem okf15 : okFn Try.prog 15 = true := by kernel_rfl
-- 16: corebank/corebankref21.SameInts
def body16_1 : C :=
 (.seq (.seq (.q [(14, (.op (.bin .lss) [(.sl 5), (.op .len [(.sl 0)])]))])
 (.cond (.sl 14) .skip (.exit 0 [])))
 (.seq (.blk 1 (.seq (.q [(25, (.op (.bin .neq) [(.op (.ld 1 false) [(.op (.ix 1) [(.sl 0), (.sl 5)])]), (.op (.ld 1 false) [(.op (.ix 1) [(.sl 1), (.sl 5)])])]))])
 (.cond (.sl 25) (.seq (.q [(4, (.k (.b false)))])
 (.ret [4])) .skip)))
 (.q [(5, (.op (.bin .add) [(.sl 5), (.k (.i .i64 1))]))])))
def code16 : FCode := ⟨2, [.tmp 4],
 (.seq (.q [(4, (.k (.b false)))])
 (.seq (.seq (.q [(10, (.op (.bin .neq) [(.op .len [(.sl 0)]), (.op .len [(.sl 1)])]))])
 (.cond (.sl 10) (.seq (.q [(4, (.k (.b false)))])
 (.ret [4])) .skip))
 (.seq (.seq (.q [(5, (.k (.i .i64 0)))])
 (.blk 0 (.loop [0, 1, 5] body16_1)))
 (.seq (.q [(4, (.k (.b true)))])
 (.ret [4])))))⟩
theorem comp16 : compile Try.prog Try.f16 = some code16 := by kernel_rfl
theorem okf16 : okFn Try.prog 16 = true := by kernel_rfl
-- 18: corebank/corebankref21.Daily
def body18_1 : C :=
 (.seq (.seq (.q [(60, (.ite (.op (.bin .leq) [(.sl 12), (.sl 3)]) (.op (.bin .neq) [(.sl 11), (.k (.i .i64 0))]) (.k (.b false))))])
 (.cond (.sl 60) .skip (.exit 2 [0, 1, 2, 3, 9, 10])))
 (.seq (.blk 3 (.s [.mv 63 (.t 9), .mv 64 (.t 12), .mv 65 (.t 2), .q 66 (.bin .sub) [(.t 64), (.t 65)], .mv 67 (.t 9), .mv 68 (.t 12), .mv 69 (.t 2), .q 70 (.bin .sub) [(.t 68), (.t 69)], .ix 71 1 (.t 67) (.t 70), .q 72 (.ld 1 false) [(.t 71)], .mv 73 (.t 11), .q 74 (.bin .add) [(.t 72), (.t 73)], .ix 75 1 (.t 63) (.t 66), .sto 1 (.t 75) (.t 74)] [63, 64, 65, 66, 67, 68, 69, 70, 71, 72, 73, 74, 75]))
 (.q [(12, (.op (.bin .add) [(.sl 12), (.k (.i .i64 1))]))])))
def body18_2 : C :=
 (.seq (.seq (.q [(38, (.op (.bin .lss) [(.sl 10), (.op .len [(.sl 0)])]))])
 (.cond (.sl 38) .skip (.exit 0 [9])))
 (.seq (.blk 1 (.seq (.q [(11, (.op (.call false 26) [(.op (.ld 10 true) [(.op (.ix 10) [(.sl 0), (.sl 10)])]), (.sl 1)]))])
 (.seq (.q [(12, (.op .mx [(.sl 2), (.op (.ld 1 false) [(.op (.fa 2 1) [(.op (.ix 10) [(.sl 0), (.sl 10)])])])]))])
 (.blk 2 (.loop [0, 1, 2, 3, 9, 10, 11, 12] body18_1)))))
 (.q [(10, (.op (.bin .add) [(.sl 10), (.k (.i .i64 1))]))])))
def code18 : FCode := ⟨4, [.tmp 8],
 (.seq (.s [.as 8 (.c (.ow 3 []))] [])
 (.seq (.seq (.q [(29, (.ite (.ite (.ite (.op (.bin .lss) [(.sl 2), (.k (.i .i64 0))]) (.k (.b true)) (.op (.bin .gtr) [(.sl 3), (.k (.i .i64 73048))])) (.k (.b true)) (.op (.bin .gtr) [(.sl 2), (.sl 3)])) (.k (.b true)) (.op (.bin .geq) [(.op (.bin .sub) [(.sl 3), (.sl 2)]), (.k (.i .i64 4000))])))])
 (.cond (.sl 29) (.seq (.s [.as 8 (.c (.ow 3 []))] [])
 (.ret [8])) .skip))
 (.seq (.s [.mv 30 (.t 3), .mv 31 (.t 2), .q 32 (.bin .sub) [(.t 30), (.t 31)], .q 33 (.bin .add) [(.t 32), (.c (.i .i64 1))], .mks 34 3 8 (.i .i64 0) (.t 33), .as 9 (.t 34)] [30, 31, 32, 33, 34])
 (.seq (.seq (.q [(10, (.k (.i .i64 0)))])
 (.blk 0 (.loop [0, 1, 2, 3, 9, 10] body18_2)))
 (.seq (.s [.mv 76 (.t 9), .as 8 (.t 76)] [76])
 (.ret [8]))))))⟩
theorem comp18 : compile Try.prog Try.f18 = some code18 := by kernel_rfl
theorem okf18 : okFn Try.prog 18 = true := by kernel_rfl
-- 20: corebank/corebankref21.Moves
def body20_1 : C :=
 (.seq (.seq (.q [(24, (.op (.bin .lss) [(.sl 8), (.op .len [(.op (.ld 1 false) [(.op (.fa 8 1) [(.op (.ix 10) [(.sl 0), (.sl 6)])])])])]))])
 (.cond (.sl 24) .skip (.exit 2 [0, 1, 5, 6, 7])))
 (.seq (.blk 3 (.q [(7, (.ite (.sl 7) (.k (.b true)) (.op (.bin .eql) [(.op (.ld 1 false) [(.op (.fa 0 1) [(.op (.ix 3) [(.op (.ld 1 false) [(.op (.fa 8 1) [(.op (.ix 10) [(.sl 0), (.sl 6)])])]), (.sl 8)])])]), (.sl 1)])))]))
 (.q [(8, (.op (.bin .add) [(.sl 8), (.k (.i .i64 1))]))])))
def body20_2 : C :=
 (.seq (.seq (.q [(59, (.ite (.op (.bin .gtr) [(.sl 9), (.k (.i .i64 0))]) (.op (.bin .gtr) [(.op (.ld 1 false) [(.op (.ix 1) [(.sl 5), (.op (.bin .sub) [(.sl 9), (.k (.i .i64 1))])])]), (.op (.ld 1 false) [(.op (.fa 2 1) [(.op (.ix 10) [(.sl 0), (.sl 6)])])])]) (.k (.b false))))])
 (.cond (.sl 59) .skip (.exit 4 [0, 1, 5, 6, 9])))
 (.blk 5 (.q [(9, (.op (.bin .sub) [(.sl 9), (.k (.i .i64 1))]))])))
def body20_3 : C :=
 (.seq (.seq (.q [(14, (.op (.bin .lss) [(.sl 6), (.op .len [(.sl 0)])]))])
 (.cond (.sl 14) .skip (.exit 0 [5])))
 (.seq (.blk 1 (.seq (.q [(7, (.k (.b false)))])
 (.seq (.seq (.q [(8, (.k (.i .i64 0)))])
 (.blk 2 (.loop [0, 1, 5, 6, 7, 8] body20_1)))
 (.seq (.seq (.q [(42, (.op (.un .not) [(.sl 7)]))])
 (.cond (.sl 42) (.exit 1 [0, 1, 5, 6]) .skip))
 (.seq (.q [(9, (.op .len [(.sl 5)]))])
 (.seq (.blk 4 (.loop [0, 1, 5, 6, 9] body20_2))
 (.seq (.seq (.q [(76, (.ite (.op (.bin .gtr) [(.sl 9), (.k (.i .i64 0))]) (.op (.bin .eql) [(.op (.ld 1 false) [(.op (.ix 1) [(.sl 5), (.op (.bin .sub) [(.sl 9), (.k (.i .i64 1))])])]), (.op (.ld 1 false) [(.op (.fa 2 1) [(.op (.ix 10) [(.sl 0), (.sl 6)])])])]) (.k (.b false))))])
 (.cond (.sl 76) (.exit 1 [0, 1, 5, 6]) .skip))
 (.seq (.s [.bsl 77 3 1 [], .mv 78 (.t 5), .mv 79 (.t 9), .slc 80 1 false true [(.t 78), (.t 79)], .app 81 3 1 8 (.t 77) (.t 80), .as 10 (.t 81)] [77, 78, 79, 80, 81])
 (.seq (.s [.mv 82 (.t 10), .mv 83 (.t 0), .mv 84 (.t 6), .ix 85 10 (.t 83) (.t 84), .fa 86 2 1 (.t 85), .q 87 (.ld 1 false) [(.t 86)], .bsl 88 3 1 [(.t 87)], .app 89 3 1 8 (.t 82) (.t 88), .as 10 (.t 89)] [82, 83, 84, 85, 86, 87, 88, 89])
 (.s [.mv 90 (.t 10), .mv 91 (.t 5), .mv 92 (.t 9), .slc 93 1 true false [(.t 91), (.t 92)], .app 94 3 1 8 (.t 90) (.t 93), .as 5 (.t 94)] [90, 91, 92, 93, 94]))))))))))
 (.q [(6, (.op (.bin .add) [(.sl 6), (.k (.i .i64 1))]))])))
def code20 : FCode := ⟨2, [.tmp 4],
 (.seq (.s [.as 4 (.c (.ow 3 []))] [])
 (.seq (.s [.as 5 (.c (.ow 3 []))] [])
 (.seq (.seq (.q [(6, (.k (.i .i64 0)))])
 (.blk 0 (.loop [0, 1, 5, 6] body20_3)))
 (.seq (.s [.mv 95 (.t 5), .as 4 (.t 95)] [95])
 (.ret [4])))))⟩
theorem comp20 : compile Try.prog Try.f20 = some code20 := by kernel_rfl
theorem okf20 : okFn Try.prog 20 = true := by kernel_rfl
-- 21: corebank/corebankref21.SameLegs
def body21_1 : C :=
 (.seq (.seq (.q [(14, (.op (.bin .lss) [(.sl 5), (.op .len [(.sl 0)])]))])
 (.cond (.sl 14) .skip (.exit 0 [])))
 (.seq (.blk 1 (.seq (.q [(25, (.op (.eqa true [1, 1, 2]) [(.op (.ld 3 true) [(.op (.ix 3) [(.sl 0), (.sl 5)])]), (.op (.ld 3 true) [(.op (.ix 3) [(.sl 1), (.sl 5)])])]))])
 (.cond (.sl 25) (.seq (.q [(4, (.k (.b false)))])
 (.ret [4])) .skip)))
 (.q [(5, (.op (.bin .add) [(.sl 5), (.k (.i .i64 1))]))])))
def code21 : FCode := ⟨2, [.tmp 4],
 (.seq (.q [(4, (.k (.b false)))])
 (.seq (.seq (.q [(10, (.op (.bin .neq) [(.op .len [(.sl 0)]), (.op .len [(.sl 1)])]))])
 (.cond (.sl 10) (.seq (.q [(4, (.k (.b false)))])
 (.ret [4])) .skip))
 (.seq (.seq (.q [(5, (.k (.i .i64 0)))])
 (.blk 0 (.loop [0, 1, 5] body21_1)))
 (.seq (.q [(4, (.k (.b true)))])
 (.ret [4])))))⟩
theorem comp21 : compile Try.prog Try.f21 = some code21 := by kernel_rfl
theorem okf21 : okFn Try.prog 21 = true := by kernel_rfl
-- 23: corebank/corebankref21.Trial
def body23_1 : C :=
 (.seq (.seq (.q [(21, (.op (.bin .lss) [(.sl 6), (.op .len [(.op (.ld 1 false) [(.op (.fa 8 1) [(.op (.ix 10) [(.sl 0), (.sl 5)])])])])]))])
 (.cond (.sl 21) .skip (.exit 2 [0, 3, 4, 5])))
 (.seq (.blk 3 (.s [.mv 24 (.t 3), .mv 25 (.t 0), .mv 26 (.t 5), .ix 27 10 (.t 25) (.t 26), .fa 28 8 1 (.t 27), .q 29 (.ld 1 false) [(.t 28)], .mv 30 (.t 6), .ix 31 3 (.t 29) (.t 30), .q 32 (.ld 3 true) [(.t 31)], .callm (some 33) 35 (mutOf 35) (.t 24) [(.t 32)], .as 3 (.t 33)] [24, 25, 26, 27, 28, 29, 30, 31, 32, 33]))
 (.q [(6, (.op (.bin .add) [(.sl 6), (.k (.i .i64 1))]))])))
def body23_2 : C :=
 (.seq (.seq (.q [(11, (.op (.bin .lss) [(.sl 5), (.op .len [(.sl 0)])]))])
 (.cond (.sl 11) .skip (.exit 0 [3, 4])))
 (.seq (.blk 1 (.seq (.q [(6, (.k (.i .i64 0)))])
 (.blk 2 (.loop [0, 3, 4, 5, 6] body23_1))))
 (.q [(5, (.op (.bin .add) [(.sl 5), (.k (.i .i64 1))]))])))
def body23_3 : C :=
 (.seq (.seq (.q [(37, (.op (.bin .lss) [(.sl 7), (.op .len [(.sl 3)])]))])
 (.cond (.sl 37) .skip (.exit 4 [4])))
 (.seq (.blk 5 (.seq (.q [(45, (.op (.bin .neq) [(.op (.ld 1 false) [(.op (.fa 1 1) [(.op (.ix 3) [(.sl 3), (.sl 7)])])]), (.k (.i .i64 0))]))])
 (.cond (.sl 45) (.s [.mv 46 (.t 4), .mv 47 (.t 3), .mv 48 (.t 7), .ix 49 3 (.t 47) (.t 48), .q 50 (.ld 3 true) [(.t 49)], .bsl 51 44 3 [(.t 50)], .app 52 44 3 32 (.t 46) (.t 51), .as 4 (.t 52)] [46, 47, 48, 49, 50, 51, 52]) .skip)))
 (.q [(7, (.op (.bin .add) [(.sl 7), (.k (.i .i64 1))]))])))
def code23 : FCode := ⟨1, [.tmp 2],
 (.seq (.s [.as 2 (.c (.ow 44 []))] [])
 (.seq (.s [.as 3 (.c (.ow 44 [])), .as 4 (.c (.ow 44 []))] [])
 (.seq (.seq (.q [(5, (.k (.i .i64 0)))])
 (.blk 0 (.loop [0, 3, 4, 5] body23_2)))
 (.seq (.seq (.q [(7, (.k (.i .i64 0)))])
 (.blk 4 (.loop [3, 4, 7] body23_3)))
 (.seq (.s [.mv 53 (.t 4), .as 2 (.t 53)] [53])
 (.ret [2]))))))⟩
theorem comp23 : compile Try.prog Try.f23 = some code23 := by kernel_rfl
theorem okf23 : okFn Try.prog 23 = true := by kernel_rfl
-- 24: corebank/corebanklaw21.sample
def code24 : FCode := ⟨0, [.tmp 0],
 (.seq (.s [.as 0 (.c (.ow 41 []))] [])
 (.seq (.s [.bld 3 [(.i .i64 0), (.i .i64 0), (.s [])] [(0, 1), (1, 1), (2, 1)] [(.c (.i .i64 101)), (.c (.i .i64 70)), (.c (.s [69, 85, 82]))], .bld 4 [(.i .i64 0), (.i .i64 0), (.s [])] [(0, 1), (1, 1), (2, 1)] [(.c (.i .i64 1000)), (.c (.i .i64 (-70))), (.c (.s [69, 85, 82]))], .bsl 5 44 3 [(.t 3), (.t 4)], .bld 6 [(.i .i64 0), (.i .i64 0), (.i .i64 0), (.i .i64 0), (.i .i64 0), (.i .i64 0), (.s []), (.s []), (.l []), (.i .u64 0)] [(1, 1), (2, 1), (8, 1)] [(.c (.i .i64 5)), (.c (.i .i64 3)), (.t 5)], .alo 1 [(.i .i64 0), (.i .i64 0), (.i .i64 0), (.i .i64 0), (.i .i64 0), (.i .i64 0), (.s []), (.s []), (.l []), (.i .u64 0)], .sto 10 (.t 1) (.t 6)] [3, 4, 5, 6])
 (.seq (.s [.bld 7 [(.i .i64 0), (.i .i64 0), (.s [])] [(0, 1), (1, 1), (2, 1)] [(.c (.i .i64 1000)), (.c (.i .i64 20)), (.c (.s [69, 85, 82]))], .bld 8 [(.i .i64 0), (.i .i64 0), (.s [])] [(0, 1), (1, 1), (2, 1)] [(.c (.i .i64 101)), (.c (.i .i64 (-20))), (.c (.s [69, 85, 82]))], .bsl 9 44 3 [(.t 7), (.t 8)], .bld 10 [(.i .i64 0), (.i .i64 0), (.i .i64 0), (.i .i64 0), (.i .i64 0), (.i .i64 0), (.s []), (.s []), (.l []), (.i .u64 0)] [(1, 1), (2, 1), (8, 1)] [(.c (.i .i64 6)), (.c (.i .i64 7)), (.t 9)], .alo 2 [(.i .i64 0), (.i .i64 0), (.i .i64 0), (.i .i64 0), (.i .i64 0), (.i .i64 0), (.s []), (.s []), (.l []), (.i .u64 0)], .sto 10 (.t 2) (.t 10)] [7, 8, 9, 10])
 (.seq (.s [.q 11 (.ld 10 true) [(.t 1)], .q 12 (.ld 10 true) [(.t 2)], .bsl 13 41 10 [(.t 11), (.t 12)], .as 0 (.t 13)] [11, 12, 13])
 (.ret [0])))))⟩
theorem comp24 : compile Try.prog Try.f24 = some code24 := by kernel_rfl
theorem okf24 : okFn Try.prog 24 = true := by kernel_rfl
-- 26: corebank/corebankref21.moved
def body26_1 : C :=
 (.seq (.seq (.q [(11, (.op (.bin .lss) [(.sl 6), (.op .len [(.op (.ld 1 false) [(.op (.fa 8 1) [(.sl 2)])])])]))])
 (.cond (.sl 11) .skip (.exit 0 [5])))
 (.seq (.blk 1 (.seq (.q [(21, (.op (.bin .eql) [(.op (.ld 1 false) [(.op (.fa 0 1) [(.op (.ix 3) [(.op (.ld 1 false) [(.op (.fa 8 1) [(.sl 2)])]), (.sl 6)])])]), (.sl 1)]))])
 (.cond (.sl 21) (.q [(5, (.op (.bin .sub) [(.sl 5), (.op (.ld 1 false) [(.op (.fa 1 1) [(.op (.ix 3) [(.op (.ld 1 false) [(.op (.fa 8 1) [(.sl 2)])]), (.sl 6)])])])]))]) .skip)))
 (.q [(6, (.op (.bin .add) [(.sl 6), (.k (.i .i64 1))]))])))
def code26 : FCode := ⟨2, [.tmp 4],
 (.seq (.s [.box 2 (.t 0), .as 4 (.c (.i .i64 0))] [])
 (.seq (.q [(5, (.k (.i .i64 0)))])
 (.seq (.seq (.q [(6, (.k (.i .i64 0)))])
 (.blk 0 (.loop [1, 2, 5, 6] body26_1)))
 (.seq (.q [(4, (.sl 5))])
 (.ret [4])))))⟩
theorem comp26 : compile Try.prog Try.f26 = some code26 := by kernel_rfl
theorem okf26 : okFn Try.prog 26 = true := by kernel_rfl
-- 27: corebank/date.Valid
def code27 : FCode := ⟨1, [.tmp 2],
 (.seq (.q [(2, (.k (.b false)))])
 (.seq (.q [(2, (.ite (.op (.bin .geq) [(.sl 0), (.k (.i .i64 0))]) (.op (.bin .leq) [(.sl 0), (.k (.i .i64 73048))]) (.k (.b false))))])
 (.ret [2])))⟩
theorem comp27 : compile Try.prog Try.f27 = some code27 := by kernel_rfl
theorem okf27 : okFn Try.prog 27 = true := by kernel_rfl
-- 42: corebank/corebankref21.less
def code42 : FCode := ⟨2, [.tmp 4],
 (.seq (.s [.box 2 (.t 0), .box 3 (.t 1), .as 4 (.c (.b false))] [])
 (.seq (.q [(4, (.ite (.op (.bin .lss) [(.op (.ld 1 false) [(.op (.fa 0 1) [(.sl 2)])]), (.op (.ld 1 false) [(.op (.fa 0 1) [(.sl 3)])])]) (.k (.b true)) (.ite (.op (.bin .eql) [(.op (.ld 1 false) [(.op (.fa 0 1) [(.sl 2)])]), (.op (.ld 1 false) [(.op (.fa 0 1) [(.sl 3)])])]) (.op (.bin .lss) [(.op (.ld 1 false) [(.op (.fa 2 1) [(.sl 2)])]), (.op (.ld 1 false) [(.op (.fa 2 1) [(.sl 3)])])]) (.k (.b false)))))])
 (.ret [4])))⟩
theorem comp42 : compile Try.prog Try.f42 = some code42 := by kernel_rfl
theorem okf42 : okFn Try.prog 42 = true := by kernel_rfl
/-- All of them. -/
def codes : List (Nat × FCode) := [(3, code3), (4, code4), (5, code5), (6, code6), (7, code7), (8, code8), (9, code9), (11, code11), (13, code13), (15, code15), (16, code16), (18, code18), (20, code20), (21, code21), (23, code23), (24, code24), (26, code26), (27, code27), (42, code42)]
def tab : Nat → Option FCode := tabOf codes
theorem codes_ok : ∀ p ∈ codes, ∃ fn, Try.prog.funcs[p.1]? = some fn ∧ compile Try.prog fn = some p.2 ∧ okFn Try.prog p.1 = true := by
  unfold codes
  simp only [List.forall_mem_cons]
  exact ⟨⟨_, Try.func3, comp3, okf3⟩, ⟨_, Try.func4, comp4, okf4⟩, ⟨_, Try.func5, comp5, okf5⟩, ⟨_, Try.func6, comp6, okf6⟩, ⟨_, Try.func7, comp7, okf7⟩, ⟨_, Try.func8, comp8, okf8⟩, ⟨_, Try.func9, comp9, okf9⟩, ⟨_, Try.func11, comp11, okf11⟩, ⟨_, Try.func13, comp13, okf13⟩, ⟨_, Try.func15, comp15, okf15⟩, ⟨_, Try.func16, comp16, okf16⟩, ⟨_, Try.func18, comp18, okf18⟩, ⟨_, Try.func20, comp20, okf20⟩, ⟨_, Try.func21, comp21, okf21⟩, ⟨_, Try.func23, comp23, okf23⟩, ⟨_, Try.func24, comp24, okf24⟩, ⟨_, Try.func26, comp26, okf26⟩, ⟨_, Try.func27, comp27, okf27⟩, ⟨_, Try.func42, comp42, okf42⟩, fun _ h => by cases h⟩
end Go.Proofs.Ytggmlfmhinafhaa
