/-
  The code of the functions that the laws reach, as the evaluator runs it: printed by a program of ours off the translation, and held against it by the kernel.
-/
import Derived.Test.YtmhpmghhgppdnaaOrd
import Derived.Test.YtmhpmghhgppdnaaVmO
import Derived.KernelRfl
namespace Go.Proofs.Ytmhpmghhgppdnaa
open Go.VM

-- 3: corebank/corebanklaw44.ReconcileMatches
def code3 : FCode := ⟨2, [.tmp 4],
 (.seq (.q [(4, (.k (.b false)))])
 (.seq (.seq (.q [(16, (.ite (.op (.call false 9) [(.sl 0)]) (.k (.b true)) (.op (.call false 9) [(.sl 1)])))])
 (.cond (.sl 16) (.seq (.q [(4, (.op (.call false 10) []))])
 (.ret [4])) .skip))
 (.seq (.s [.mv 19 (.t 0), .mv 20 (.t 1), .call (some 21) 11 [(.t 19), (.t 20)], .mv 18 (.t 21), .ext 22 0 18, .ext 23 1 18, .ext 24 2 18, .as 5 (.t 22), .as 6 (.t 23), .as 7 (.t 24)] [19, 20, 21, 18, 22, 23, 24])
 (.seq (.s [.mv 26 (.t 0), .mv 27 (.t 1), .call (some 28) 12 [(.t 26), (.t 27)], .mv 25 (.t 28), .ext 29 0 25, .ext 30 1 25, .ext 31 2 25, .as 8 (.t 29), .as 9 (.t 30), .as 10 (.t 31)] [26, 27, 28, 25, 29, 30, 31])
 (.seq (.q [(4, (.ite (.ite (.ite (.op (.call false 13) [(.sl 5), (.sl 8)]) (.op (.call false 14) [(.sl 6), (.sl 9)]) (.k (.b false))) (.op (.call false 14) [(.sl 7), (.sl 10)]) (.k (.b false))) (.op (.call false 10) []) (.k (.b false))))])
 (.ret [4]))))))⟩
theorem comp3 : compile Try.prog Try.f3 = some code3 := by kernel_rfl
theorem okf3 : okFn Try.prog 3 = true := by kernel_rfl
-- 4: corebank/corebanklaw44.ReconcileValid
def code4 : FCode := ⟨3, [.tmp 6],
 (.seq (.q [(6, (.k (.b false)))])
 (.seq (.q [(6, (.ite (.ite (.ite (.ite (.op (.call false 9) [(.sl 0)]) (.k (.b true)) (.op (.call false 9) [(.sl 1)])) (.k (.b true)) (.op (.bin .gtr) [(.op .len [(.sl 2)]), (.k (.i .i64 100))])) (.k (.b true)) (.op (.binb .eql) [(.op (.call false 15) [(.sl 0), (.sl 1), (.sl 2)]), (.op (.call false 16) [(.sl 0), (.sl 1), (.sl 2)])])) (.op (.call false 10) []) (.k (.b false))))])
 (.ret [6])))⟩
theorem comp4 : compile Try.prog Try.f4 = some code4 := by kernel_rfl
theorem okf4 : okFn Try.prog 4 = true := by kernel_rfl
-- 5: corebank/corebanklaw44.ReconcileGaps
def code5 : FCode := ⟨2, [.tmp 4],
 (.seq (.q [(4, (.k (.b false)))])
 (.seq (.seq (.q [(14, (.ite (.op (.call false 9) [(.sl 0)]) (.k (.b true)) (.op (.call false 9) [(.sl 1)])))])
 (.cond (.sl 14) (.seq (.q [(4, (.op (.call false 10) []))])
 (.ret [4])) .skip))
 (.seq (.q [(5, (.op (.ext 0) [(.op (.call false 17) [(.sl 0), (.sl 1)])])), (6, (.op (.ext 1) [(.op (.call false 17) [(.sl 0), (.sl 1)])]))])
 (.seq (.q [(7, (.op (.ext 0) [(.op (.call false 18) [(.sl 0), (.sl 1)])])), (8, (.op (.ext 1) [(.op (.call false 18) [(.sl 0), (.sl 1)])]))])
 (.seq (.q [(4, (.ite (.ite (.op (.bin .eql) [(.sl 5), (.sl 7)]) (.op (.bin .eql) [(.sl 6), (.sl 8)]) (.k (.b false))) (.op (.call false 10) []) (.k (.b false))))])
 (.ret [4]))))))⟩
theorem comp5 : compile Try.prog Try.f5 = some code5 := by kernel_rfl
theorem okf5 : okFn Try.prog 5 = true := by kernel_rfl
-- 6: corebank/corebanklaw44.ReconcileOneToOne
def body6_1 : C :=
 (.seq (.seq (.q [(69, (.op (.bin .lss) [(.sl 8), (.op .len [(.sl 5)])]))])
 (.cond (.sl 69) .skip (.exit 0 [0, 1, 6, 7])))
 (.seq (.blk 1 (.seq (.q [(9, (.op (.ld 1 false) [(.op (.fa 0 1) [(.op (.ix 3) [(.sl 5), (.sl 8)])])])), (10, (.op (.ld 1 false) [(.op (.fa 1 1) [(.op (.ix 3) [(.sl 5), (.sl 8)])])]))])
 (.seq (.seq (.q [(122, (.ite (.ite (.ite (.ite (.ite (.ite (.op (.bin .lss) [(.sl 9), (.k (.i .i64 0))]) (.k (.b true)) (.op (.bin .geq) [(.sl 9), (.op .len [(.sl 0)])])) (.k (.b true)) (.op (.bin .lss) [(.sl 10), (.k (.i .i64 0))])) (.k (.b true)) (.op (.bin .geq) [(.sl 10), (.op .len [(.sl 1)])])) (.k (.b true)) (.op (.call true 20) [(.sl 6), (.sl 9)])) (.k (.b true)) (.op (.call true 20) [(.sl 7), (.sl 10)])) (.k (.b true)) (.op (.bin .neq) [(.op (.ld 1 false) [(.op (.fa 2 1) [(.op (.ix 3) [(.sl 0), (.sl 9)])])]), (.op (.ld 1 false) [(.op (.fa 2 1) [(.op (.ix 3) [(.sl 1), (.sl 10)])])])])))])
 (.cond (.sl 122) (.seq (.q [(4, (.k (.b false)))])
 (.ret [4])) .skip))
 (.seq (.q [(171, (.ite (.ite (.ite (.op (.bin .lss) [(.op (.ld 1 false) [(.op (.fa 2 1) [(.op (.ix 3) [(.sl 5), (.sl 8)])])]), (.k (.i .i64 1))]) (.k (.b true)) (.op (.bin .gtr) [(.op (.ld 1 false) [(.op (.fa 2 1) [(.op (.ix 3) [(.sl 5), (.sl 8)])])]), (.k (.i .i64 3))])) (.k (.b true)) (.op (.un .not) [(.op (.call true 21) [(.op (.ld 3 true) [(.op (.ix 3) [(.sl 0), (.sl 9)])]), (.op (.ld 3 true) [(.op (.ix 3) [(.sl 1), (.sl 10)])]), (.op (.ld 1 false) [(.op (.fa 2 1) [(.op (.ix 3) [(.sl 5), (.sl 8)])])])])])) (.k (.b true)) (.ite (.op (.bin .gtr) [(.sl 8), (.k (.i .i64 0))]) (.op (.bin .leq) [(.op (.ld 1 false) [(.op (.fa 0 1) [(.op (.ix 3) [(.sl 5), (.sl 8)])])]), (.op (.ld 1 false) [(.op (.fa 0 1) [(.op (.ix 3) [(.sl 5), (.op (.bin .sub) [(.sl 8), (.k (.i .i64 1))])])])])]) (.k (.b false)))))])
 (.cond (.sl 171) (.seq (.q [(4, (.k (.b false)))])
 (.ret [4])) .skip)))))
 (.q [(8, (.op (.bin .add) [(.sl 8), (.k (.i .i64 1))]))])))
def body6_2 : C :=
 (.seq (.seq (.q [(181, (.op (.bin .lss) [(.sl 12), (.op .len [(.sl 7)])]))])
 (.cond (.sl 181) .skip (.exit 4 [0, 1, 6, 7, 11])))
 (.seq (.blk 5 (.seq (.q [(215, (.ite (.op (.call true 21) [(.op (.ld 3 true) [(.op (.ix 3) [(.sl 0), (.op (.ld 1 false) [(.op (.ix 1) [(.sl 6), (.sl 11)])])])]), (.op (.ld 3 true) [(.op (.ix 3) [(.sl 1), (.op (.ld 1 false) [(.op (.ix 1) [(.sl 7), (.sl 12)])])])]), (.k (.i .i64 1))]) (.k (.b true)) (.op (.call true 21) [(.op (.ld 3 true) [(.op (.ix 3) [(.sl 0), (.op (.ld 1 false) [(.op (.ix 1) [(.sl 6), (.sl 11)])])])]), (.op (.ld 3 true) [(.op (.ix 3) [(.sl 1), (.op (.ld 1 false) [(.op (.ix 1) [(.sl 7), (.sl 12)])])])]), (.k (.i .i64 3))])))])
 (.cond (.sl 215) (.seq (.q [(4, (.k (.b false)))])
 (.ret [4])) .skip)))
 (.q [(12, (.op (.bin .add) [(.sl 12), (.k (.i .i64 1))]))])))
def body6_3 : C :=
 (.seq (.seq (.q [(175, (.op (.bin .lss) [(.sl 11), (.op .len [(.sl 6)])]))])
 (.cond (.sl 175) .skip (.exit 2 [])))
 (.seq (.blk 3 (.seq (.q [(12, (.k (.i .i64 0)))])
 (.blk 4 (.loop [0, 1, 6, 7, 11, 12] body6_2))))
 (.q [(11, (.op (.bin .add) [(.sl 11), (.k (.i .i64 1))]))])))
def code6 : FCode := ⟨2, [.tmp 4],
 (.seq (.q [(4, (.k (.b false)))])
 (.seq (.seq (.q [(18, (.ite (.op (.call false 9) [(.sl 0)]) (.k (.b true)) (.op (.call false 9) [(.sl 1)])))])
 (.cond (.sl 18) (.seq (.q [(4, (.op (.call false 10) []))])
 (.ret [4])) .skip))
 (.seq (.s [.mv 21 (.t 0), .mv 22 (.t 1), .call (some 23) 11 [(.t 21), (.t 22)], .mv 20 (.t 23), .ext 24 0 20, .ext 25 1 20, .ext 26 2 20, .as 5 (.t 24), .as 6 (.t 25), .as 7 (.t 26)] [21, 22, 23, 20, 24, 25, 26])
 (.seq (.seq (.q [(65, (.ite (.ite (.ite (.ite (.op (.un .not) [(.op (.call false 19) [(.sl 6), (.op .len [(.sl 0)])])]) (.k (.b true)) (.op (.un .not) [(.op (.call false 19) [(.sl 7), (.op .len [(.sl 1)])])])) (.k (.b true)) (.op (.bin .neq) [(.op (.bin .add) [(.op .len [(.sl 5)]), (.op .len [(.sl 6)])]), (.op .len [(.sl 0)])])) (.k (.b true)) (.op (.bin .neq) [(.op (.bin .add) [(.op .len [(.sl 5)]), (.op .len [(.sl 7)])]), (.op .len [(.sl 1)])])) (.k (.b true)) (.op (.un .not) [(.op (.call false 15) [(.sl 0), (.sl 1), (.sl 5)])])))])
 (.cond (.sl 65) (.seq (.q [(4, (.k (.b false)))])
 (.ret [4])) .skip))
 (.seq (.seq (.q [(8, (.k (.i .i64 0)))])
 (.blk 0 (.loop [0, 1, 5, 6, 7, 8] body6_1)))
 (.seq (.seq (.q [(11, (.k (.i .i64 0)))])
 (.blk 2 (.loop [0, 1, 6, 7, 11] body6_3)))
 (.seq (.q [(4, (.op (.call false 10) []))])
 (.ret [4]))))))))⟩
theorem comp6 : compile Try.prog Try.f6 = some code6 := by kernel_rfl
theorem okf6 : okFn Try.prog 6 = true := by kernel_rfl
-- 7: corebank/corebanklaw44.ReconcileLeft
def code7 : FCode := ⟨2, [.tmp 4],
 (.seq (.q [(4, (.k (.b false)))])
 (.seq (.seq (.q [(19, (.ite (.op (.call false 9) [(.sl 0)]) (.k (.b true)) (.op (.call false 9) [(.sl 1)])))])
 (.cond (.sl 19) (.seq (.q [(4, (.op (.call false 10) []))])
 (.ret [4])) .skip))
 (.seq (.s [.mv 22 (.t 0), .mv 23 (.t 1), .call (some 24) 18 [(.t 22), (.t 23)], .mv 21 (.t 24), .ext 25 0 21, .ext 26 1 21, .as 5 (.t 25), .as 6 (.t 26)] [22, 23, 24, 21, 25, 26, 5])
 (.seq (.q [(7, (.op (.ext 0) [(.op (.call false 17) [(.sl 0), (.sl 1)])])), (8, (.op (.ext 1) [(.op (.call false 17) [(.sl 0), (.sl 1)])]))])
 (.seq (.seq (.q [(34, (.op (.bin .neq) [(.sl 6), (.k (.i .i64 0))]))])
 (.cond (.sl 34) (.seq (.q [(4, (.ite (.ite (.op (.bin .eql) [(.sl 7), (.k (.i .i64 0))]) (.op (.bin .eql) [(.sl 8), (.sl 6)]) (.k (.b false))) (.op (.call false 10) []) (.k (.b false))))])
 (.ret [4])) .skip))
 (.seq (.s [.mv 46 (.t 0), .mv 47 (.t 1), .call (some 48) 11 [(.t 46), (.t 47)], .mv 45 (.t 48), .ext 49 0 45, .ext 50 1 45, .ext 51 2 45, .as 9 (.t 49), .as 10 (.t 50), .as 11 (.t 51)] [46, 47, 48, 45, 49, 50, 51, 9])
 (.seq (.q [(12, (.op (.ext 0) [(.op (.call false 17) [(.op (.call false 22) [(.sl 0), (.sl 10)]), (.op (.call false 22) [(.sl 1), (.sl 11)])])])), (13, (.op (.ext 1) [(.op (.call false 17) [(.op (.call false 22) [(.sl 0), (.sl 10)]), (.op (.call false 22) [(.sl 1), (.sl 11)])])]))])
 (.seq (.q [(4, (.ite (.ite (.ite (.op (.bin .eql) [(.sl 8), (.k (.i .i64 0))]) (.op (.bin .eql) [(.sl 13), (.k (.i .i64 0))]) (.k (.b false))) (.op (.bin .eql) [(.sl 7), (.sl 12)]) (.k (.b false))) (.op (.call false 10) []) (.k (.b false))))])
 (.ret [4])))))))))⟩
theorem comp7 : compile Try.prog Try.f7 = some code7 := by kernel_rfl
theorem okf7 : okFn Try.prog 7 = true := by kernel_rfl
-- 8: corebank/corebanklaw44.ReconcileItems
def code8 : FCode := ⟨2, [.tmp 4],
 (.seq (.s [.box 3 (.t 1), .as 4 (.c (.b false))] [])
 (.seq (.q [(4, (.ite (.ite (.op (.call false 23) [(.sl 0), (.k (.i .i64 40))]) (.k (.b true)) (.op (.call false 24) [(.op (.call false 25) [(.sl 0), (.op (.ld 1 false) [(.op (.fa 0 1) [(.sl 3)])]), (.op (.ld 1 false) [(.op (.fa 1 1) [(.sl 3)])]), (.op (.ld 1 false) [(.op (.fa 2 1) [(.sl 3)])])]), (.op (.call false 26) [(.sl 0), (.op (.ld 1 false) [(.op (.fa 0 1) [(.sl 3)])]), (.op (.ld 1 false) [(.op (.fa 1 1) [(.sl 3)])]), (.op (.ld 1 false) [(.op (.fa 2 1) [(.sl 3)])])])])) (.op (.call false 10) []) (.k (.b false))))])
 (.ret [4])))⟩
theorem comp8 : compile Try.prog Try.f8 = some code8 := by kernel_rfl
theorem okf8 : okFn Try.prog 8 = true := by kernel_rfl
-- 9: corebank/corebankref44.Great
def body9_1 : C :=
 (.seq (.seq (.q [(11, (.ite (.op (.bin .lss) [(.sl 3), (.op .len [(.sl 0)])]) (.op (.bin .leq) [(.sl 3), (.k (.i .i64 60))]) (.k (.b false))))])
 (.cond (.sl 11) .skip (.exit 0 [0])))
 (.seq (.blk 1 (.seq (.q [(20, (.op (.bin .gtr) [(.op .slen [(.op (.ld 1 false) [(.op (.fa 0 1) [(.op (.ix 3) [(.sl 0), (.sl 3)])])])]), (.k (.i .i64 200))]))])
 (.cond (.sl 20) (.seq (.q [(2, (.k (.b true)))])
 (.ret [2])) .skip)))
 (.q [(3, (.op (.bin .add) [(.sl 3), (.k (.i .i64 1))]))])))
def code9 : FCode := ⟨1, [.tmp 2],
 (.seq (.q [(2, (.k (.b false)))])
 (.seq (.seq (.q [(3, (.k (.i .i64 0)))])
 (.blk 0 (.loop [0, 3] body9_1)))
 (.seq (.q [(2, (.op (.bin .gtr) [(.op .len [(.sl 0)]), (.k (.i .i64 60))]))])
 (.ret [2]))))⟩
theorem comp9 : compile Try.prog Try.f9 = some code9 := by kernel_rfl
theorem okf9 : okFn Try.prog 9 = true := by kernel_rfl
-- 10: corebank/corebanklaw44.live
def code10 : FCode := ⟨0, [.tmp 0],
 (.seq (.q [(0, (.k (.b false)))])
 (.seq (.s [.bld 11 [(.s []), (.i .i64 0), (.i .i64 0)] [(0, 1), (1, 1), (2, 1)] [(.c (.s [97])), (.c (.i .i64 1)), (.c (.i .i64 5))], .bld 12 [(.s []), (.i .i64 0), (.i .i64 0)] [(0, 1), (1, 1), (2, 1)] [(.c (.s [98])), (.c (.i .i64 2)), (.c (.i .i64 5))], .bsl 13 40 3 [(.t 11), (.t 12)], .as 1 (.t 13)] [11, 12, 13])
 (.seq (.s [.bld 14 [(.s []), (.i .i64 0), (.i .i64 0)] [(0, 1), (1, 1), (2, 1)] [(.c (.s [98])), (.c (.i .i64 9)), (.c (.i .i64 5))], .bsl 15 40 3 [(.t 14)], .as 2 (.t 15)] [14, 15])
 (.seq (.s [.mv 17 (.t 1), .mv 18 (.t 2), .call (some 19) 11 [(.t 17), (.t 18)], .mv 16 (.t 19), .ext 20 0 16, .ext 21 1 16, .ext 22 2 16, .as 3 (.t 20), .as 4 (.t 21), .as 5 (.t 22)] [17, 18, 19, 16, 20, 21, 22])
 (.seq (.s [.bld 24 [(.s []), (.i .i64 0), (.i .i64 0)] [(1, 1), (2, 1)] [(.c (.i .i64 3)), (.c (.i .i64 7))], .bsl 25 40 3 [(.t 24)], .bld 26 [(.s []), (.i .i64 0), (.i .i64 0)] [(0, 1), (1, 1), (2, 1)] [(.c (.s [120])), (.c (.i .i64 8)), (.c (.i .i64 7))], .bsl 27 40 3 [(.t 26)], .call (some 28) 11 [(.t 25), (.t 27)], .mv 23 (.t 28), .ext 29 0 23, .ext 30 1 23, .ext 31 2 23, .as 6 (.t 29), .as 7 (.t 30), .as 8 (.t 31)] [24, 25, 26, 27, 28, 23, 29, 30, 31, 7, 8])
 (.seq (.q [(9, (.op (.ext 0) [(.op (.call false 17) [(.sl 1), (.sl 2)])])), (10, (.op (.ext 1) [(.op (.call false 17) [(.sl 1), (.sl 2)])]))])
 (.seq (.q [(0, (.ite (.ite (.ite (.ite (.ite (.ite (.ite (.op (.call false 13) [(.sl 3), (.op (.bsl 3) [(.op (.bld [(.i .i64 0), (.i .i64 0), (.i .i64 0)] [(0, 1), (2, 1)]) [(.k (.i .i64 1)), (.k (.i .i64 1))])])]) (.op (.call false 14) [(.sl 4), (.op (.bsl 1) [(.k (.i .i64 0))])]) (.k (.b false))) (.op (.bin .eql) [(.op .len [(.sl 5)]), (.k (.i .i64 0))]) (.k (.b false))) (.op (.call false 13) [(.sl 6), (.op (.bsl 3) [(.op (.bld [(.i .i64 0), (.i .i64 0), (.i .i64 0)] [(2, 1)]) [(.k (.i .i64 3))])])]) (.k (.b false))) (.op (.bin .eql) [(.sl 9), (.k (.i .i64 5))]) (.k (.b false))) (.op (.bin .eql) [(.sl 10), (.k (.i .i64 0))]) (.k (.b false))) (.op (.call false 15) [(.sl 1), (.sl 2), (.sl 3)]) (.k (.b false))) (.op (.un .not) [(.op (.call false 15) [(.sl 1), (.sl 2), (.op (.bsl 3) [(.op (.bld [(.i .i64 0), (.i .i64 0), (.i .i64 0)] [(1, 1)]) [(.k (.i .i64 1))])])])]) (.k (.b false))))])
 (.ret [0]))))))))⟩
theorem comp10 : compile Try.prog Try.f10 = some code10 := by kernel_rfl
theorem okf10 : okFn Try.prog 10 = true := by kernel_rfl
-- 12: corebank/corebankref44.Match
def body12_1 : C :=
 (.seq (.seq (.q [(38, (.op (.bin .lss) [(.sl 10), (.op .len [(.sl 1)])]))])
 (.cond (.sl 38) .skip (.exit 4 [0, 1, 7, 8, 9])))
 (.seq (.blk 5 (.seq (.q [(62, (.ite (.ite (.op (.bin .lss) [(.op (.call true 33) [(.sl 7), (.sl 9), (.k (.b true))]), (.k (.i .i64 0))]) (.op (.bin .lss) [(.op (.call true 33) [(.sl 7), (.sl 10), (.k (.b false))]), (.k (.i .i64 0))]) (.k (.b false))) (.op (.call true 21) [(.op (.ld 3 true) [(.op (.ix 3) [(.sl 0), (.sl 9)])]), (.op (.ld 3 true) [(.op (.ix 3) [(.sl 1), (.sl 10)])]), (.sl 8)]) (.k (.b false))))])
 (.cond (.sl 62) (.s [.mv 63 (.t 7), .mv 64 (.t 9), .mv 65 (.t 10), .mv 66 (.t 8), .bld 67 [(.i .i64 0), (.i .i64 0), (.i .i64 0)] [(0, 1), (1, 1), (2, 1)] [(.t 64), (.t 65), (.t 66)], .bsl 68 38 3 [(.t 67)], .app 69 38 3 24 (.t 63) (.t 68), .as 7 (.t 69)] [63, 64, 65, 66, 67, 68, 69]) .skip)))
 (.q [(10, (.op (.bin .add) [(.sl 10), (.k (.i .i64 1))]))])))
def body12_2 : C :=
 (.seq (.seq (.q [(32, (.op (.bin .lss) [(.sl 9), (.op .len [(.sl 0)])]))])
 (.cond (.sl 32) .skip (.exit 2 [0, 1, 7, 8])))
 (.seq (.blk 3 (.seq (.q [(10, (.k (.i .i64 0)))])
 (.blk 4 (.loop [0, 1, 7, 8, 9, 10] body12_1))))
 (.q [(9, (.op (.bin .add) [(.sl 9), (.k (.i .i64 1))]))])))
def body12_3 : C :=
 (.seq (.seq (.q [(26, (.ite (.ite (.op (.bin .leq) [(.sl 8), (.k (.i .i64 3))]) (.op (.bin .leq) [(.op .len [(.sl 0)]), (.k (.i .i64 4096))]) (.k (.b false))) (.op (.bin .leq) [(.op .len [(.sl 1)]), (.k (.i .i64 4096))]) (.k (.b false))))])
 (.cond (.sl 26) .skip (.exit 0 [0, 1, 7])))
 (.seq (.blk 1 (.seq (.q [(9, (.k (.i .i64 0)))])
 (.blk 2 (.loop [0, 1, 7, 8, 9] body12_2))))
 (.q [(8, (.op (.bin .add) [(.sl 8), (.k (.i .i64 1))]))])))
def body12_4 : C :=
 (.seq (.seq (.q [(74, (.op (.bin .lss) [(.sl 12), (.op .len [(.sl 0)])]))])
 (.cond (.sl 74) .skip (.exit 6 [0, 1, 7, 11])))
 (.seq (.blk 7 (.seq (.q [(13, (.op (.call false 33) [(.sl 7), (.sl 12), (.k (.b true))]))])
 (.seq (.q [(81, (.op (.bin .geq) [(.sl 13), (.k (.i .i64 0))]))])
 (.cond (.sl 81) (.s [.mv 82 (.t 11), .mv 83 (.t 7), .mv 84 (.t 13), .ix 85 3 (.t 83) (.t 84), .q 86 (.ld 3 true) [(.t 85)], .bsl 87 38 3 [(.t 86)], .app 88 38 3 24 (.t 82) (.t 87), .as 11 (.t 88)] [82, 83, 84, 85, 86, 87, 88]) .skip))))
 (.q [(12, (.op (.bin .add) [(.sl 12), (.k (.i .i64 1))]))])))
def code12 : FCode := ⟨2, [.tmp 4, .tmp 5, .tmp 6],
 (.seq (.s [.as 4 (.c (.ow 38 [])), .as 5 (.c (.ow 3 [])), .as 6 (.c (.ow 3 []))] [])
 (.seq (.s [.bsl 14 38 3 [], .as 7 (.t 14)] [14])
 (.seq (.seq (.q [(8, (.k (.i .i64 1)))])
 (.blk 0 (.loop [0, 1, 7, 8] body12_3)))
 (.seq (.s [.bsl 70 38 3 [], .as 11 (.t 70)] [70])
 (.seq (.seq (.q [(12, (.k (.i .i64 0)))])
 (.blk 6 (.loop [0, 1, 7, 11, 12] body12_4)))
 (.seq (.s [.mv 89 (.t 11), .mv 90 (.t 0), .q 91 .len [(.t 90)], .mv 92 (.t 7), .call (some 93) 34 [(.t 91), (.t 92), (.c (.b true))], .mv 94 (.t 1), .q 95 .len [(.t 94)], .mv 96 (.t 7), .call (some 97) 34 [(.t 95), (.t 96), (.c (.b false))], .as 4 (.t 89), .as 5 (.t 93), .as 6 (.t 97)] [89, 90, 91, 92, 93, 94, 95, 96, 97])
 (.ret [4, 5, 6])))))))⟩
theorem comp12 : compile Try.prog Try.f12 = some code12 := by kernel_rfl
theorem okf12 : okFn Try.prog 12 = true := by kernel_rfl
-- 13: corebank/corebankref44.SamePairs
def body13_1 : C :=
 (.seq (.seq (.q [(14, (.op (.bin .lss) [(.sl 5), (.op .len [(.sl 0)])]))])
 (.cond (.sl 14) .skip (.exit 0 [])))
 (.seq (.blk 1 (.seq (.q [(25, (.op (.eqa true [1, 1, 1]) [(.op (.ld 3 true) [(.op (.ix 3) [(.sl 0), (.sl 5)])]), (.op (.ld 3 true) [(.op (.ix 3) [(.sl 1), (.sl 5)])])]))])
 (.cond (.sl 25) (.seq (.q [(4, (.k (.b false)))])
 (.ret [4])) .skip)))
 (.q [(5, (.op (.bin .add) [(.sl 5), (.k (.i .i64 1))]))])))
def code13 : FCode := ⟨2, [.tmp 4],
 (.seq (.q [(4, (.k (.b false)))])
 (.seq (.seq (.q [(10, (.op (.bin .neq) [(.op .len [(.sl 0)]), (.op .len [(.sl 1)])]))])
 (.cond (.sl 10) (.seq (.q [(4, (.k (.b false)))])
 (.ret [4])) .skip))
 (.seq (.seq (.q [(5, (.k (.i .i64 0)))])
 (.blk 0 (.loop [0, 1, 5] body13_1)))
 (.seq (.q [(4, (.k (.b true)))])
 (.ret [4])))))⟩
theorem comp13 : compile Try.prog Try.f13 = some code13 := by kernel_rfl
theorem okf13 : okFn Try.prog 13 = true := by kernel_rfl
-- 14: corebank/corebankref05.Ints
def body14_1 : C :=
 (.seq (.seq (.q [(14, (.op (.bin .lss) [(.sl 5), (.op .len [(.sl 0)])]))])
 (.cond (.sl 14) .skip (.exit 0 [])))
 (.seq (.blk 1 (.seq (.q [(25, (.op (.bin .neq) [(.op (.ld 1 false) [(.op (.ix 1) [(.sl 0), (.sl 5)])]), (.op (.ld 1 false) [(.op (.ix 1) [(.sl 1), (.sl 5)])])]))])
 (.cond (.sl 25) (.seq (.q [(4, (.k (.b false)))])
 (.ret [4])) .skip)))
 (.q [(5, (.op (.bin .add) [(.sl 5), (.k (.i .i64 1))]))])))
def code14 : FCode := ⟨2, [.tmp 4],
 (.seq (.q [(4, (.k (.b false)))])
 (.seq (.seq (.q [(10, (.op (.bin .neq) [(.op .len [(.sl 0)]), (.op .len [(.sl 1)])]))])
 (.cond (.sl 10) (.seq (.q [(4, (.k (.b false)))])
 (.ret [4])) .skip))
 (.seq (.seq (.q [(5, (.k (.i .i64 0)))])
 (.blk 0 (.loop [0, 1, 5] body14_1)))
 (.seq (.q [(4, (.k (.b true)))])
 (.ret [4])))))⟩
theorem comp14 : compile Try.prog Try.f14 = some code14 := by kernel_rfl
theorem okf14 : okFn Try.prog 14 = true := by kernel_rfl
-- 15: corebank/reconcile.Valid
def body15_1 : C :=
 (.seq (.q [(16, (.op (.bin .lss) [(.sl 15), (.sl 14)]))])
 (.seq (.cond (.sl 16) .skip (.exit 0 []))
 (.seq (.blk 1 (.seq (.s [.ix 17 3 (.t 13) (.t 15), .q 18 (.ld 3 true) [(.t 17)], .alo 10 [(.i .i64 0), (.i .i64 0), (.i .i64 0)], .sto 3 (.t 10) (.t 18)] [17, 18])
 (.seq (.seq (.dg [.s (.fa 19 0 1 (.t 10)), .s (.q 20 (.ld 1 false) [(.t 19)]), .s (.q 21 (.bin .lss) [(.t 20), (.c (.i .i64 0))]), .s (.mv 22 (.t 21)), .gd 22 false (some 23) (.fa 23 0 1 (.t 10)), .gd 22 false (some 24) (.q 24 (.ld 1 false) [(.t 23)]), .gd 22 false (some 25) (.mv 25 (.t 0)), .gd 22 false (some 26) (.q 26 .len [(.t 25)]), .gd 22 false (some 27) (.q 27 (.bin .geq) [(.t 24), (.t 26)]), .pick 28 22 (.c (.b true)) (.t 27), .s (.mv 29 (.t 28)), .gd 29 false (some 30) (.fa 30 1 1 (.t 10)), .gd 29 false (some 31) (.q 31 (.ld 1 false) [(.t 30)]), .gd 29 false (some 32) (.q 32 (.bin .lss) [(.t 31), (.c (.i .i64 0))]), .pick 33 29 (.c (.b true)) (.t 32), .s (.mv 34 (.t 33)), .gd 34 false (some 35) (.fa 35 1 1 (.t 10)), .gd 34 false (some 36) (.q 36 (.ld 1 false) [(.t 35)]), .gd 34 false (some 37) (.mv 37 (.t 1)), .gd 34 false (some 38) (.q 38 .len [(.t 37)]), .gd 34 false (some 39) (.q 39 (.bin .geq) [(.t 36), (.t 38)]), .pick 40 34 (.c (.b true)) (.t 39), .s (.mv 41 (.t 40)), .gd 41 false (some 42) (.mv 42 (.t 7)), .gd 41 false (some 43) (.fa 43 0 1 (.t 10)), .gd 41 false (some 44) (.q 44 (.ld 1 false) [(.t 43)]), .gd 41 false (some 45) (.mget 45 2 (.b false) (.t 42) (.t 44)), .pick 46 41 (.c (.b true)) (.t 45), .s (.mv 47 (.t 46)), .gd 47 false (some 48) (.mv 48 (.t 8)), .gd 47 false (some 49) (.fa 49 1 1 (.t 10)), .gd 47 false (some 50) (.q 50 (.ld 1 false) [(.t 49)]), .gd 47 false (some 51) (.mget 51 2 (.b false) (.t 48) (.t 50)), .pick 52 47 (.c (.b true)) (.t 51), .s (.mv 53 (.t 52)), .gd 53 false (some 54) (.mv 54 (.t 0)), .gd 53 false (some 55) (.fa 55 0 1 (.t 10)), .gd 53 false (some 56) (.q 56 (.ld 1 false) [(.t 55)]), .gd 53 false (some 57) (.ix 57 3 (.t 54) (.t 56)), .gd 53 false (some 58) (.fa 58 2 1 (.t 57)), .gd 53 false (some 59) (.q 59 (.ld 1 false) [(.t 58)]), .gd 53 false (some 60) (.mv 60 (.t 1)), .gd 53 false (some 61) (.fa 61 1 1 (.t 10)), .gd 53 false (some 62) (.q 62 (.ld 1 false) [(.t 61)]), .gd 53 false (some 63) (.ix 63 3 (.t 60) (.t 62)), .gd 53 false (some 64) (.fa 64 2 1 (.t 63)), .gd 53 false (some 65) (.q 65 (.ld 1 false) [(.t 64)]), .gd 53 false (some 66) (.q 66 (.bin .neq) [(.t 59), (.t 65)]), .pick 67 53 (.c (.b true)) (.t 66)] [[], [0], [1], [2], [3], [4, 3], [3], [6, 3], [5, 7, 3], [3, 8], [9, 3], [10], [11, 10], [12, 10], [10, 13], [14, 10], [15], [16, 15], [15], [18, 15], [17, 19, 15], [15, 20], [21, 15], [22], [22], [24, 22], [23, 25, 22], [22, 26], [27, 22], [28], [28], [30, 28], [29, 31, 28], [28, 32], [33, 28], [34], [34], [36, 34], [35, 37, 34], [38, 34], [39, 34], [34], [34], [42, 34], [41, 43, 34], [44, 34], [45, 34], [40, 46, 34], [34, 47]] [19, 20, 21, 22, 23, 24, 25, 26, 27, 28, 29, 30, 31, 32, 33, 34, 35, 36, 37, 38, 39, 40, 41, 42, 43, 44, 45, 46, 47, 48, 49, 50, 51, 52, 53, 54, 55, 56, 57, 58, 59, 60, 61, 62, 63, 64, 65, 66])
 (.cond (.sl 67) (.seq (.q [(6, (.k (.b false)))])
 (.ret [6])) .skip))
 (.d [.mv 68 (.t 7), .fa 69 0 1 (.t 10), .q 70 (.ld 1 false) [(.t 69)], .mv 71 (.t 8), .fa 72 1 1 (.t 10), .q 73 (.ld 1 false) [(.t 72)], .mset 2 (.t 68) (.t 70) (.c (.b true)), .mset 2 (.t 71) (.t 73) (.c (.b true))] [[], [], [1], [], [], [4], [0, 2, 0, 1, 2], [3, 5, 6, 0, 1, 2, 3, 4, 5, 6]] [68, 69, 70, 71, 72, 73]))))
 (.q [(15, (.op (.bin .add) [(.sl 15), (.k (.i .i64 1))]))]))))
def code15 : FCode := ⟨3, [.tmp 6],
 (.seq (.q [(6, (.k (.b false)))])
 (.seq (.s [.mkm 11, .mkm 12, .as 7 (.t 11), .as 8 (.t 12)] [11, 12])
 (.seq (.seq (.s [.mv 13 (.t 2), .q 14 .len [(.t 13)], .mv 15 (.c (.i .i64 0))] [])
 (.blk 0 (.loop [0, 1, 7, 8, 13, 14, 15] body15_1)))
 (.seq (.q [(6, (.k (.b true)))])
 (.ret [6])))))⟩
theorem comp15 : compile Try.prog Try.f15 = some code15 := by kernel_rfl
theorem okf15 : okFn Try.prog 15 = true := by kernel_rfl
-- 16: corebank/corebankref44.Valid
def body16_1 : C :=
 (.seq (.seq (.q [(11, (.op (.bin .lss) [(.sl 7), (.op .len [(.sl 2)])]))])
 (.cond (.sl 11) .skip (.exit 0 [])))
 (.seq (.blk 1 (.seq (.seq (.q [(47, (.ite (.ite (.ite (.op (.bin .lss) [(.op (.ld 1 false) [(.op (.fa 0 1) [(.op (.ix 3) [(.sl 2), (.sl 7)])])]), (.k (.i .i64 0))]) (.k (.b true)) (.op (.bin .geq) [(.op (.ld 1 false) [(.op (.fa 0 1) [(.op (.ix 3) [(.sl 2), (.sl 7)])])]), (.op .len [(.sl 0)])])) (.k (.b true)) (.op (.bin .lss) [(.op (.ld 1 false) [(.op (.fa 1 1) [(.op (.ix 3) [(.sl 2), (.sl 7)])])]), (.k (.i .i64 0))])) (.k (.b true)) (.op (.bin .geq) [(.op (.ld 1 false) [(.op (.fa 1 1) [(.op (.ix 3) [(.sl 2), (.sl 7)])])]), (.op .len [(.sl 1)])])))])
 (.cond (.sl 47) (.seq (.q [(6, (.k (.b false)))])
 (.ret [6])) .skip))
 (.seq (.q [(88, (.ite (.ite (.op (.bin .neq) [(.op (.ld 1 false) [(.op (.fa 2 1) [(.op (.ix 3) [(.sl 0), (.op (.ld 1 false) [(.op (.fa 0 1) [(.op (.ix 3) [(.sl 2), (.sl 7)])])])])])]), (.op (.ld 1 false) [(.op (.fa 2 1) [(.op (.ix 3) [(.sl 1), (.op (.ld 1 false) [(.op (.fa 1 1) [(.op (.ix 3) [(.sl 2), (.sl 7)])])])])])])]) (.k (.b true)) (.op (.bin .neq) [(.op (.call true 33) [(.sl 2), (.op (.ld 1 false) [(.op (.fa 0 1) [(.op (.ix 3) [(.sl 2), (.sl 7)])])]), (.k (.b true))]), (.sl 7)])) (.k (.b true)) (.op (.bin .neq) [(.op (.call true 33) [(.sl 2), (.op (.ld 1 false) [(.op (.fa 1 1) [(.op (.ix 3) [(.sl 2), (.sl 7)])])]), (.k (.b false))]), (.sl 7)])))])
 (.cond (.sl 88) (.seq (.q [(6, (.k (.b false)))])
 (.ret [6])) .skip))))
 (.q [(7, (.op (.bin .add) [(.sl 7), (.k (.i .i64 1))]))])))
def code16 : FCode := ⟨3, [.tmp 6],
 (.seq (.q [(6, (.k (.b false)))])
 (.seq (.seq (.q [(7, (.k (.i .i64 0)))])
 (.blk 0 (.loop [0, 1, 2, 7] body16_1)))
 (.seq (.q [(6, (.k (.b true)))])
 (.ret [6]))))⟩
theorem comp16 : compile Try.prog Try.f16 = some code16 := by kernel_rfl
theorem okf16 : okFn Try.prog 16 = true := by kernel_rfl
-- 17: corebank/reconcile.Gap
def code17 : FCode := ⟨2, [.tmp 4, .tmp 5],
 (.seq (.q [(4, (.k (.i .i64 0))), (5, (.k (.i .i64 0)))])
 (.seq (.seq (.q [(17, (.ite (.op (.bin .gtr) [(.op .len [(.sl 0)]), (.k (.i .i64 4096))]) (.k (.b true)) (.op (.bin .gtr) [(.op .len [(.sl 1)]), (.k (.i .i64 4096))])))])
 (.cond (.sl 17) (.seq (.q [(4, (.k (.i .i64 0))), (5, (.k (.i .i64 5)))])
 (.ret [4, 5])) .skip))
 (.seq (.q [(6, (.op (.ext 0) [(.op (.call false 35) [(.sl 0)])])), (7, (.op (.ext 1) [(.op (.call false 35) [(.sl 0)])]))])
 (.seq (.q [(8, (.op (.ext 0) [(.op (.call false 35) [(.sl 1)])])), (9, (.op (.ext 1) [(.op (.call false 35) [(.sl 1)])]))])
 (.seq (.blk 0 (.seq (.q [(28, (.ite (.op (.un .not) [(.sl 7)]) (.k (.b true)) (.op (.un .not) [(.sl 9)])))])
 (.cond (.sl 28) (.seq (.q [(4, (.k (.i .i64 0))), (5, (.k (.i .i64 1)))])
 (.ret [4, 5])) (.seq (.q [(35, (.op (.un .not) [(.op (.call false 36) [(.op (.bin .sub) [(.sl 6), (.sl 8)])])]))])
 (.cond (.sl 35) (.seq (.q [(4, (.k (.i .i64 0))), (5, (.k (.i .i64 6)))])
 (.ret [4, 5])) .skip)))))
 (.seq (.q [(4, (.op (.bin .sub) [(.sl 6), (.sl 8)])), (5, (.k (.i .i64 0)))])
 (.ret [4, 5])))))))⟩
theorem comp17 : compile Try.prog Try.f17 = some code17 := by kernel_rfl
theorem okf17 : okFn Try.prog 17 = true := by kernel_rfl
-- 18: corebank/corebankref44.Gap
def code18 : FCode := ⟨2, [.tmp 4, .tmp 5],
 (.seq (.q [(4, (.k (.i .i64 0))), (5, (.k (.i .i64 0)))])
 (.seq (.seq (.q [(17, (.ite (.op (.bin .gtr) [(.op .len [(.sl 0)]), (.k (.i .i64 4096))]) (.k (.b true)) (.op (.bin .gtr) [(.op .len [(.sl 1)]), (.k (.i .i64 4096))])))])
 (.cond (.sl 17) (.seq (.q [(4, (.k (.i .i64 0))), (5, (.k (.i .i64 5)))])
 (.ret [4, 5])) .skip))
 (.seq (.q [(6, (.op (.ext 0) [(.op (.call false 37) [(.sl 0)])])), (7, (.op (.ext 1) [(.op (.call false 37) [(.sl 0)])]))])
 (.seq (.q [(8, (.op (.ext 0) [(.op (.call false 37) [(.sl 1)])])), (9, (.op (.ext 1) [(.op (.call false 37) [(.sl 1)])]))])
 (.seq (.seq (.q [(33, (.ite (.op (.un .not) [(.sl 7)]) (.k (.b true)) (.op (.un .not) [(.sl 9)])))])
 (.cond (.sl 33) (.seq (.q [(4, (.k (.i .i64 0))), (5, (.k (.i .i64 1)))])
 (.ret [4, 5])) .skip))
 (.seq (.seq (.q [(38, (.op (.un .not) [(.op (.call false 38) [(.op (.bin .sub) [(.sl 6), (.sl 8)])])]))])
 (.cond (.sl 38) (.seq (.q [(4, (.k (.i .i64 0))), (5, (.k (.i .i64 6)))])
 (.ret [4, 5])) .skip))
 (.seq (.q [(4, (.op (.bin .sub) [(.sl 6), (.sl 8)])), (5, (.k (.i .i64 0)))])
 (.ret [4, 5]))))))))⟩
theorem comp18 : compile Try.prog Try.f18 = some code18 := by kernel_rfl
theorem okf18 : okFn Try.prog 18 = true := by kernel_rfl
-- 19: corebank/corebanklaw44.rises
def body19_1 : C :=
 (.seq (.seq (.q [(9, (.op (.bin .lss) [(.sl 5), (.op .len [(.sl 0)])]))])
 (.cond (.sl 9) .skip (.exit 0 [])))
 (.seq (.blk 1 (.seq (.q [(40, (.ite (.ite (.op (.bin .lss) [(.op (.ld 1 false) [(.op (.ix 1) [(.sl 0), (.sl 5)])]), (.k (.i .i64 0))]) (.k (.b true)) (.op (.bin .geq) [(.op (.ld 1 false) [(.op (.ix 1) [(.sl 0), (.sl 5)])]), (.sl 1)])) (.k (.b true)) (.ite (.op (.bin .gtr) [(.sl 5), (.k (.i .i64 0))]) (.op (.bin .leq) [(.op (.ld 1 false) [(.op (.ix 1) [(.sl 0), (.sl 5)])]), (.op (.ld 1 false) [(.op (.ix 1) [(.sl 0), (.op (.bin .sub) [(.sl 5), (.k (.i .i64 1))])])])]) (.k (.b false)))))])
 (.cond (.sl 40) (.seq (.q [(4, (.k (.b false)))])
 (.ret [4])) .skip)))
 (.q [(5, (.op (.bin .add) [(.sl 5), (.k (.i .i64 1))]))])))
def code19 : FCode := ⟨2, [.tmp 4],
 (.seq (.q [(4, (.k (.b false)))])
 (.seq (.seq (.q [(5, (.k (.i .i64 0)))])
 (.blk 0 (.loop [0, 1, 5] body19_1)))
 (.seq (.q [(4, (.k (.b true)))])
 (.ret [4]))))⟩
theorem comp19 : compile Try.prog Try.f19 = some code19 := by kernel_rfl
theorem okf19 : okFn Try.prog 19 = true := by kernel_rfl
-- 20: corebank/corebankref05.Has
def body20_1 : C :=
 (.seq (.seq (.q [(9, (.op (.bin .lss) [(.sl 5), (.op .len [(.sl 0)])]))])
 (.cond (.sl 9) .skip (.exit 0 [])))
 (.seq (.blk 1 (.seq (.q [(17, (.op (.bin .eql) [(.op (.ld 1 false) [(.op (.ix 1) [(.sl 0), (.sl 5)])]), (.sl 1)]))])
 (.cond (.sl 17) (.seq (.q [(4, (.k (.b true)))])
 (.ret [4])) .skip)))
 (.q [(5, (.op (.bin .add) [(.sl 5), (.k (.i .i64 1))]))])))
def code20 : FCode := ⟨2, [.tmp 4],
 (.seq (.q [(4, (.k (.b false)))])
 (.seq (.seq (.q [(5, (.k (.i .i64 0)))])
 (.blk 0 (.loop [0, 1, 5] body20_1)))
 (.seq (.q [(4, (.k (.b false)))])
 (.ret [4]))))⟩
theorem comp20 : compile Try.prog Try.f20 = some code20 := by kernel_rfl
theorem okf20 : okFn Try.prog 20 = true := by kernel_rfl
-- 21: corebank/corebankref44.Fits
def code21 : FCode := ⟨3, [.tmp 6],
 (.seq (.s [.box 3 (.t 0), .box 4 (.t 1), .as 6 (.c (.b false))] [])
 (.seq (.seq (.q [(11, (.op (.bin .neq) [(.op (.ld 1 false) [(.op (.fa 2 1) [(.sl 3)])]), (.op (.ld 1 false) [(.op (.fa 2 1) [(.sl 4)])])]))])
 (.cond (.sl 11) (.seq (.q [(6, (.k (.b false)))])
 (.ret [6])) .skip))
 (.seq (.seq (.q [(12, (.sl 2))])
 (.blk 0 (.seq (.q [(13, (.op (.bin .eql) [(.sl 12), (.k (.i .i64 1))]))])
 (.cond (.sl 13) (.seq (.q [(6, (.op (.bin .eql) [(.op (.ld 1 false) [(.op (.fa 0 1) [(.sl 3)])]), (.op (.ld 1 false) [(.op (.fa 0 1) [(.sl 4)])])]))])
 (.ret [6])) (.seq (.q [(20, (.op (.bin .eql) [(.sl 12), (.k (.i .i64 2))]))])
 (.cond (.sl 20) (.seq (.q [(6, (.op (.bin .eql) [(.op (.ld 1 false) [(.op (.fa 1 1) [(.sl 3)])]), (.op (.ld 1 false) [(.op (.fa 1 1) [(.sl 4)])])]))])
 (.ret [6])) .skip))))))
 (.seq (.q [(6, (.op (.call false 39) [(.op (.ld 1 false) [(.op (.fa 1 1) [(.sl 3)])]), (.op (.ld 1 false) [(.op (.fa 1 1) [(.sl 4)])])]))])
 (.ret [6])))))⟩
theorem comp21 : compile Try.prog Try.f21 = some code21 := by kernel_rfl
theorem okf21 : okFn Try.prog 21 = true := by kernel_rfl
-- 22: corebank/corebanklaw44.chosen
def body22_1 : C :=
 (.seq (.seq (.q [(11, (.op (.bin .lss) [(.sl 6), (.op .len [(.sl 1)])]))])
 (.cond (.sl 11) .skip (.exit 0 [5])))
 (.seq (.blk 1 (.seq (.q [(27, (.ite (.op (.bin .geq) [(.op (.ld 1 false) [(.op (.ix 1) [(.sl 1), (.sl 6)])]), (.k (.i .i64 0))]) (.op (.bin .lss) [(.op (.ld 1 false) [(.op (.ix 1) [(.sl 1), (.sl 6)])]), (.op .len [(.sl 0)])]) (.k (.b false))))])
 (.cond (.sl 27) (.s [.mv 28 (.t 5), .mv 29 (.t 0), .mv 30 (.t 1), .mv 31 (.t 6), .ix 32 1 (.t 30) (.t 31), .q 33 (.ld 1 false) [(.t 32)], .ix 34 3 (.t 29) (.t 33), .q 35 (.ld 3 true) [(.t 34)], .bsl 36 40 3 [(.t 35)], .app 37 40 3 32 (.t 28) (.t 36), .as 5 (.t 37)] [28, 29, 30, 31, 32, 33, 34, 35, 36, 37]) .skip)))
 (.q [(6, (.op (.bin .add) [(.sl 6), (.k (.i .i64 1))]))])))
def code22 : FCode := ⟨2, [.tmp 4],
 (.seq (.s [.as 4 (.c (.ow 40 []))] [])
 (.seq (.s [.bsl 7 40 3 [], .as 5 (.t 7)] [7])
 (.seq (.seq (.q [(6, (.k (.i .i64 0)))])
 (.blk 0 (.loop [0, 1, 5, 6] body22_1)))
 (.seq (.s [.mv 38 (.t 5), .as 4 (.t 38)] [38])
 (.ret [4])))))⟩
theorem comp22 : compile Try.prog Try.f22 = some code22 := by kernel_rfl
theorem okf22 : okFn Try.prog 22 = true := by kernel_rfl
-- 23: corebank/corebankref20.Great
def body23_1 : C :=
 (.seq (.seq (.q [(14, (.ite (.op (.bin .lss) [(.sl 5), (.op .len [(.sl 0)])]) (.op (.bin .leq) [(.sl 5), (.sl 1)]) (.k (.b false))))])
 (.cond (.sl 14) .skip (.exit 0 [0, 1])))
 (.seq (.blk 1 (.seq (.q [(21, (.op (.call false 40) [(.op (.ld 10 true) [(.op (.ix 10) [(.sl 0), (.sl 5)])])]))])
 (.cond (.sl 21) (.seq (.q [(4, (.k (.b true)))])
 (.ret [4])) .skip)))
 (.q [(5, (.op (.bin .add) [(.sl 5), (.k (.i .i64 1))]))])))
def code23 : FCode := ⟨2, [.tmp 4],
 (.seq (.q [(4, (.k (.b false)))])
 (.seq (.seq (.q [(5, (.k (.i .i64 0)))])
 (.blk 0 (.loop [0, 1, 5] body23_1)))
 (.seq (.q [(4, (.op (.bin .gtr) [(.op .len [(.sl 0)]), (.sl 1)]))])
 (.ret [4]))))⟩
theorem comp23 : compile Try.prog Try.f23 = some code23 := by kernel_rfl
theorem okf23 : okFn Try.prog 23 = true := by kernel_rfl
-- 24: corebank/corebankref44.SameItems
def body24_1 : C :=
 (.seq (.seq (.q [(14, (.op (.bin .lss) [(.sl 5), (.op .len [(.sl 0)])]))])
 (.cond (.sl 14) .skip (.exit 0 [])))
 (.seq (.blk 1 (.seq (.q [(25, (.op (.eqa true [2, 1, 1]) [(.op (.ld 3 true) [(.op (.ix 3) [(.sl 0), (.sl 5)])]), (.op (.ld 3 true) [(.op (.ix 3) [(.sl 1), (.sl 5)])])]))])
 (.cond (.sl 25) (.seq (.q [(4, (.k (.b false)))])
 (.ret [4])) .skip)))
 (.q [(5, (.op (.bin .add) [(.sl 5), (.k (.i .i64 1))]))])))
def code24 : FCode := ⟨2, [.tmp 4],
 (.seq (.q [(4, (.k (.b false)))])
 (.seq (.seq (.q [(10, (.op (.bin .neq) [(.op .len [(.sl 0)]), (.op .len [(.sl 1)])]))])
 (.cond (.sl 10) (.seq (.q [(4, (.k (.b false)))])
 (.ret [4])) .skip))
 (.seq (.seq (.q [(5, (.k (.i .i64 0)))])
 (.blk 0 (.loop [0, 1, 5] body24_1)))
 (.seq (.q [(4, (.k (.b true)))])
 (.ret [4])))))⟩
theorem comp24 : compile Try.prog Try.f24 = some code24 := by kernel_rfl
theorem okf24 : okFn Try.prog 24 = true := by kernel_rfl
-- 25: corebank/reconcile.Items
def body25_1 : C :=
 (.seq (.q [(34, (.op (.bin .lss) [(.sl 33), (.sl 32)]))])
 (.seq (.cond (.sl 34) .skip (.exit 2 [1, 2, 3, 9, 14, 15, 16]))
 (.seq (.blk 3 (.seq (.s [.ix 35 3 (.t 31) (.t 33), .q 36 (.ld 3 true) [(.t 35)], .alo 13 [(.i .i64 0), (.i .i64 0), (.s [])], .sto 3 (.t 13) (.t 36)] [35, 36])
 (.seq (.q [(40, (.op (.bin .eql) [(.op (.ld 1 false) [(.op (.fa 0 1) [(.sl 13)])]), (.sl 1)]))])
 (.cond (.sl 40) (.s [.mv 41 (.t 9), .fa 42 6 1 (.t 11), .q 43 (.ld 1 false) [(.t 42)], .fa 44 2 1 (.t 11), .q 45 (.ld 1 false) [(.t 44)], .fa 46 1 1 (.t 13), .q 47 (.ld 1 false) [(.t 46)], .q 48 (.un .neg) [(.t 47)], .bld 49 [(.s []), (.i .i64 0), (.i .i64 0)] [(0, 1), (1, 1), (2, 1)] [(.t 43), (.t 45), (.t 48)], .bsl 50 40 3 [(.t 49)], .app 51 40 3 32 (.t 41) (.t 50), .as 9 (.t 51)] [41, 42, 43, 44, 45, 46, 47, 48, 49, 50, 51]) .skip))))
 (.q [(33, (.op (.bin .add) [(.sl 33), (.k (.i .i64 1))]))]))))
def body25_2 : C :=
 (.seq (.q [(17, (.op (.bin .lss) [(.sl 16), (.sl 15)]))])
 (.seq (.cond (.sl 17) .skip (.exit 0 [9]))
 (.seq (.blk 1 (.seq (.s [.ix 18 10 (.t 14) (.t 16), .q 19 (.ld 10 true) [(.t 18)], .alo 11 [(.i .i64 0), (.i .i64 0), (.i .i64 0), (.i .i64 0), (.i .i64 0), (.i .i64 0), (.s []), (.s []), (.l []), (.i .u64 0)], .sto 10 (.t 11) (.t 19)] [18, 19])
 (.seq (.seq (.q [(29, (.ite (.op (.bin .lss) [(.op (.ld 1 false) [(.op (.fa 1 1) [(.sl 11)])]), (.sl 2)]) (.k (.b true)) (.op (.bin .gtr) [(.op (.ld 1 false) [(.op (.fa 1 1) [(.sl 11)])]), (.sl 3)])))])
 (.cond (.sl 29) (.exit 1 [1, 2, 3, 9, 14, 15, 16]) .skip))
 (.seq (.s [.fa 30 8 1 (.t 11), .q 31 (.ld 1 false) [(.t 30)], .q 32 .len [(.t 31)], .mv 33 (.c (.i .i64 0))] [30])
 (.blk 2 (.loop [1, 2, 3, 9, 11, 14, 15, 16, 31, 32, 33] body25_1))))))
 (.q [(16, (.op (.bin .add) [(.sl 16), (.k (.i .i64 1))]))]))))
def code25 : FCode := ⟨4, [.tmp 8],
 (.seq (.s [.as 8 (.c (.ow 40 []))] [])
 (.seq (.s [.as 9 (.c (.ow 40 []))] [])
 (.seq (.seq (.s [.mv 14 (.t 0), .q 15 .len [(.t 14)], .mv 16 (.c (.i .i64 0))] [])
 (.blk 0 (.loop [1, 2, 3, 9, 14, 15, 16] body25_2)))
 (.seq (.s [.mv 54 (.t 9), .as 8 (.t 54)] [54])
 (.ret [8])))))⟩
theorem comp25 : compile Try.prog Try.f25 = some code25 := by kernel_rfl
theorem okf25 : okFn Try.prog 25 = true := by kernel_rfl
-- 26: corebank/corebankref44.Items
def body26_1 : C :=
 (.seq (.seq (.q [(44, (.ite (.ite (.op (.bin .lss) [(.sl 11), (.op .len [(.op (.ld 1 false) [(.op (.fa 8 1) [(.op (.ix 10) [(.sl 0), (.sl 10)])])])])]) (.op (.bin .geq) [(.op (.ld 1 false) [(.op (.fa 1 1) [(.op (.ix 10) [(.sl 0), (.sl 10)])])]), (.sl 2)]) (.k (.b false))) (.op (.bin .leq) [(.op (.ld 1 false) [(.op (.fa 1 1) [(.op (.ix 10) [(.sl 0), (.sl 10)])])]), (.sl 3)]) (.k (.b false))))])
 (.cond (.sl 44) .skip (.exit 2 [0, 1, 2, 3, 9, 10])))
 (.seq (.blk 3 (.seq (.q [(57, (.op (.bin .eql) [(.op (.ld 1 false) [(.op (.fa 0 1) [(.op (.ix 3) [(.op (.ld 1 false) [(.op (.fa 8 1) [(.op (.ix 10) [(.sl 0), (.sl 10)])])]), (.sl 11)])])]), (.sl 1)]))])
 (.cond (.sl 57) (.d [.mv 58 (.t 9), .mv 59 (.t 0), .mv 60 (.t 10), .ix 61 10 (.t 59) (.t 60), .fa 62 6 1 (.t 61), .q 63 (.ld 1 false) [(.t 62)], .mv 64 (.t 0), .mv 65 (.t 10), .ix 66 10 (.t 64) (.t 65), .fa 67 2 1 (.t 66), .q 68 (.ld 1 false) [(.t 67)], .mv 69 (.t 0), .mv 70 (.t 10), .ix 71 10 (.t 69) (.t 70), .fa 72 8 1 (.t 71), .q 73 (.ld 1 false) [(.t 72)], .mv 74 (.t 11), .ix 75 3 (.t 73) (.t 74), .fa 76 1 1 (.t 75), .q 77 (.ld 1 false) [(.t 76)], .q 78 (.un .neg) [(.t 77)], .bld 79 [(.s []), (.i .i64 0), (.i .i64 0)] [(0, 1), (1, 1), (2, 1)] [(.t 63), (.t 68), (.t 78)], .bsl 80 40 3 [(.t 79)], .app 81 40 3 32 (.t 58) (.t 80), .as 9 (.t 81)] [[], [], [], [1, 2], [3], [4], [], [], [6, 7], [8], [9], [], [], [11, 12], [13], [14], [], [15, 16], [17], [18], [19], [5, 10, 20], [21], [0, 22], [23, 23, 0, 1, 2, 3, 4, 5, 6, 7, 8, 9, 10, 11, 12, 13, 14, 15, 16, 17, 18, 19, 20, 21, 22, 23]] [58, 59, 60, 61, 62, 63, 64, 65, 66, 67, 68, 69, 70, 71, 72, 73, 74, 75, 76, 77, 78, 79, 80, 81]) .skip)))
 (.q [(11, (.op (.bin .add) [(.sl 11), (.k (.i .i64 1))]))])))
def body26_2 : C :=
 (.seq (.seq (.q [(16, (.op (.bin .lss) [(.sl 10), (.op .len [(.sl 0)])]))])
 (.cond (.sl 16) .skip (.exit 0 [9])))
 (.seq (.blk 1 (.seq (.q [(11, (.k (.i .i64 0)))])
 (.blk 2 (.loop [0, 1, 2, 3, 9, 10, 11] body26_1))))
 (.q [(10, (.op (.bin .add) [(.sl 10), (.k (.i .i64 1))]))])))
def code26 : FCode := ⟨4, [.tmp 8],
 (.seq (.s [.as 8 (.c (.ow 40 []))] [])
 (.seq (.s [.bsl 12 40 3 [], .as 9 (.t 12)] [12])
 (.seq (.seq (.q [(10, (.k (.i .i64 0)))])
 (.blk 0 (.loop [0, 1, 2, 3, 9, 10] body26_2)))
 (.seq (.s [.mv 82 (.t 9), .as 8 (.t 82)] [82])
 (.ret [8])))))⟩
theorem comp26 : compile Try.prog Try.f26 = some code26 := by kernel_rfl
theorem okf26 : okFn Try.prog 26 = true := by kernel_rfl
-- 31: corebank/reconcile.Match$1
def code31 : FCode := ⟨2, [.tmp 4],
 (.seq (.s [.box 2 (.t 0), .box 3 (.t 1), .as 4 (.c (.i .i64 0))] [])
 (.seq (.q [(4, (.op (.call false 32) [(.op (.ld 1 false) [(.op (.fa 0 1) [(.sl 2)])]), (.op (.ld 1 false) [(.op (.fa 0 1) [(.sl 3)])])]))])
 (.ret [4])))⟩
theorem comp31 : compile Try.prog Try.f31 = some code31 := by kernel_rfl
theorem okf31 : okFn Try.prog 31 = true := by kernel_rfl
-- 32: cmp.Compare[int]
def code32 : FCode := ⟨2, [.tmp 4],
 (.seq (.q [(4, (.k (.i .i64 0)))])
 (.seq (.q [(5, (.op (.call false 48) [(.sl 0)]))])
 (.seq (.q [(6, (.op (.call false 48) [(.sl 1)]))])
 (.seq (.seq (.q [(11, (.sl 5))])
 (.cond (.sl 11) (.seq (.seq (.q [(12, (.sl 6))])
 (.cond (.sl 12) (.seq (.q [(4, (.k (.i .i64 0)))])
 (.ret [4])) .skip))
 (.seq (.q [(4, (.k (.i .i64 (-1))))])
 (.ret [4]))) .skip))
 (.seq (.seq (.q [(13, (.sl 6))])
 (.cond (.sl 13) (.seq (.q [(4, (.k (.i .i64 1)))])
 (.ret [4])) .skip))
 (.seq (.seq (.q [(16, (.op (.bin .lss) [(.sl 0), (.sl 1)]))])
 (.cond (.sl 16) (.seq (.q [(4, (.k (.i .i64 (-1))))])
 (.ret [4])) .skip))
 (.seq (.seq (.q [(19, (.op (.bin .gtr) [(.sl 0), (.sl 1)]))])
 (.cond (.sl 19) (.seq (.q [(4, (.k (.i .i64 1)))])
 (.ret [4])) .skip))
 (.seq (.q [(4, (.k (.i .i64 0)))])
 (.ret [4])))))))))⟩
theorem comp32 : compile Try.prog Try.f32 = some code32 := by kernel_rfl
theorem okf32 : okFn Try.prog 32 = true := by kernel_rfl
-- 33: corebank/corebankref44.at
def body33_1 : C :=
 (.seq (.seq (.q [(11, (.op (.bin .lss) [(.sl 7), (.op .len [(.sl 0)])]))])
 (.cond (.sl 11) .skip (.exit 0 [])))
 (.seq (.blk 1 (.seq (.q [(36, (.ite (.ite (.sl 2) (.op (.bin .eql) [(.op (.ld 1 false) [(.op (.fa 0 1) [(.op (.ix 3) [(.sl 0), (.sl 7)])])]), (.sl 1)]) (.k (.b false))) (.k (.b true)) (.ite (.op (.un .not) [(.sl 2)]) (.op (.bin .eql) [(.op (.ld 1 false) [(.op (.fa 1 1) [(.op (.ix 3) [(.sl 0), (.sl 7)])])]), (.sl 1)]) (.k (.b false)))))])
 (.cond (.sl 36) (.seq (.q [(6, (.sl 7))])
 (.ret [6])) .skip)))
 (.q [(7, (.op (.bin .add) [(.sl 7), (.k (.i .i64 1))]))])))
def code33 : FCode := ⟨3, [.tmp 6],
 (.seq (.q [(6, (.k (.i .i64 0)))])
 (.seq (.seq (.q [(7, (.k (.i .i64 0)))])
 (.blk 0 (.loop [0, 1, 2, 7] body33_1)))
 (.seq (.q [(6, (.k (.i .i64 (-1))))])
 (.ret [6]))))⟩
theorem comp33 : compile Try.prog Try.f33 = some code33 := by kernel_rfl
theorem okf33 : okFn Try.prog 33 = true := by kernel_rfl
-- 34: corebank/corebankref44.free
def body34_1 : C :=
 (.seq (.seq (.q [(12, (.op (.bin .lss) [(.sl 8), (.sl 0)]))])
 (.cond (.sl 12) .skip (.exit 0 [7])))
 (.seq (.blk 1 (.seq (.q [(19, (.op (.bin .lss) [(.op (.call false 33) [(.sl 1), (.sl 8), (.sl 2)]), (.k (.i .i64 0))]))])
 (.cond (.sl 19) (.s [.mv 20 (.t 7), .mv 21 (.t 8), .bsl 22 3 1 [(.t 21)], .app 23 3 1 8 (.t 20) (.t 22), .as 7 (.t 23)] [20, 21, 22, 23]) .skip)))
 (.q [(8, (.op (.bin .add) [(.sl 8), (.k (.i .i64 1))]))])))
def code34 : FCode := ⟨3, [.tmp 6],
 (.seq (.s [.as 6 (.c (.ow 3 []))] [])
 (.seq (.s [.bsl 9 3 1 [], .as 7 (.t 9)] [9])
 (.seq (.seq (.q [(8, (.k (.i .i64 0)))])
 (.blk 0 (.loop [0, 1, 2, 7, 8] body34_1)))
 (.seq (.s [.mv 24 (.t 7), .as 6 (.t 24)] [24])
 (.ret [6])))))⟩
theorem comp34 : compile Try.prog Try.f34 = some code34 := by kernel_rfl
theorem okf34 : okFn Try.prog 34 = true := by kernel_rfl
-- 35: corebank/reconcile.sum
def body35_1 : C :=
 (.seq (.q [(10, (.op (.bin .lss) [(.sl 9), (.sl 8)]))])
 (.seq (.cond (.sl 10) .skip (.exit 0 [4]))
 (.seq (.blk 1 (.seq (.s [.ix 11 3 (.t 7) (.t 9), .q 12 (.ld 3 true) [(.t 11)], .alo 6 [(.s []), (.i .i64 0), (.i .i64 0)], .sto 3 (.t 6) (.t 12)] [11, 12])
 (.seq (.seq (.q [(16, (.op (.un .not) [(.op (.call false 36) [(.op (.ld 1 false) [(.op (.fa 2 1) [(.sl 6)])])])]))])
 (.cond (.sl 16) (.seq (.q [(2, (.k (.i .i64 0))), (3, (.k (.b false)))])
 (.ret [2, 3])) .skip))
 (.q [(4, (.op (.bin .add) [(.sl 4), (.op (.ld 1 false) [(.op (.fa 2 1) [(.sl 6)])])]))]))))
 (.q [(9, (.op (.bin .add) [(.sl 9), (.k (.i .i64 1))]))]))))
def code35 : FCode := ⟨1, [.tmp 2, .tmp 3],
 (.seq (.q [(2, (.k (.i .i64 0))), (3, (.k (.b false)))])
 (.seq (.q [(4, (.k (.i .i64 0)))])
 (.seq (.seq (.s [.mv 7 (.t 0), .q 8 .len [(.t 7)], .mv 9 (.c (.i .i64 0))] [])
 (.blk 0 (.loop [4, 7, 8, 9] body35_1)))
 (.seq (.q [(2, (.sl 4)), (3, (.k (.b true)))])
 (.ret [2, 3])))))⟩
theorem comp35 : compile Try.prog Try.f35 = some code35 := by kernel_rfl
theorem okf35 : okFn Try.prog 35 = true := by kernel_rfl
-- 36: corebank/money.Valid
def code36 : FCode := ⟨1, [.tmp 2],
 (.seq (.q [(2, (.k (.b false)))])
 (.seq (.q [(2, (.ite (.op (.bin .geq) [(.sl 0), (.k (.i .i64 (-1000000000000)))]) (.op (.bin .leq) [(.sl 0), (.k (.i .i64 1000000000000))]) (.k (.b false))))])
 (.ret [2])))⟩
theorem comp36 : compile Try.prog Try.f36 = some code36 := by kernel_rfl
theorem okf36 : okFn Try.prog 36 = true := by kernel_rfl
-- 37: corebank/corebankref44.total
def body37_1 : C :=
 (.seq (.seq (.q [(9, (.op (.bin .lss) [(.sl 5), (.op .len [(.sl 0)])]))])
 (.cond (.sl 9) .skip (.exit 0 [4])))
 (.seq (.blk 1 (.seq (.seq (.q [(18, (.op (.un .not) [(.op (.call false 38) [(.op (.ld 1 false) [(.op (.fa 2 1) [(.op (.ix 3) [(.sl 0), (.sl 5)])])])])]))])
 (.cond (.sl 18) (.seq (.q [(2, (.k (.i .i64 0))), (3, (.k (.b false)))])
 (.ret [2, 3])) .skip))
 (.q [(4, (.op (.bin .add) [(.sl 4), (.op (.ld 1 false) [(.op (.fa 2 1) [(.op (.ix 3) [(.sl 0), (.sl 5)])])])]))])))
 (.q [(5, (.op (.bin .add) [(.sl 5), (.k (.i .i64 1))]))])))
def code37 : FCode := ⟨1, [.tmp 2, .tmp 3],
 (.seq (.q [(2, (.k (.i .i64 0))), (3, (.k (.b false)))])
 (.seq (.q [(4, (.k (.i .i64 0)))])
 (.seq (.seq (.q [(5, (.k (.i .i64 0)))])
 (.blk 0 (.loop [0, 4, 5] body37_1)))
 (.seq (.q [(2, (.sl 4)), (3, (.k (.b true)))])
 (.ret [2, 3])))))⟩
theorem comp37 : compile Try.prog Try.f37 = some code37 := by kernel_rfl
theorem okf37 : okFn Try.prog 37 = true := by kernel_rfl
-- 38: corebank/corebankref03.Valid
def code38 : FCode := ⟨1, [.tmp 2],
 (.seq (.q [(2, (.k (.b false)))])
 (.seq (.q [(2, (.ite (.op (.bin .geq) [(.sl 0), (.k (.i .i64 (-1000000000000)))]) (.op (.bin .leq) [(.sl 0), (.k (.i .i64 1000000000000))]) (.k (.b false))))])
 (.ret [2])))⟩
theorem comp38 : compile Try.prog Try.f38 = some code38 := by kernel_rfl
theorem okf38 : okFn Try.prog 38 = true := by kernel_rfl
-- 39: corebank/corebankref44.close
def code39 : FCode := ⟨2, [.tmp 4],
 (.seq (.q [(4, (.k (.b false)))])
 (.seq (.seq (.q [(7, (.op (.bin .gtr) [(.sl 0), (.sl 1)]))])
 (.cond (.sl 7) (.seq (.q [(4, (.op (.bin .leq) [(.op (.bin .sub) [(.op (.cnv .u64) [(.sl 0)]), (.op (.cnv .u64) [(.sl 1)])]), (.k (.i .u64 5))]))])
 (.ret [4])) .skip))
 (.seq (.q [(4, (.op (.bin .leq) [(.op (.bin .sub) [(.op (.cnv .u64) [(.sl 1)]), (.op (.cnv .u64) [(.sl 0)])]), (.k (.i .u64 5))]))])
 (.ret [4]))))⟩
theorem comp39 : compile Try.prog Try.f39 = some code39 := by kernel_rfl
theorem okf39 : okFn Try.prog 39 = true := by kernel_rfl
-- 40: corebank/corebankref19.Great
def body40_1 : C :=
 (.seq (.seq (.q [(24, (.op (.bin .lss) [(.sl 3), (.op .len [(.op (.ld 1 false) [(.op (.fa 8 1) [(.sl 1)])])])]))])
 (.cond (.sl 24) .skip (.exit 0 [])))
 (.seq (.blk 1 (.seq (.q [(34, (.op (.bin .gtr) [(.op .slen [(.op (.ld 1 false) [(.op (.fa 2 1) [(.op (.ix 3) [(.op (.ld 1 false) [(.op (.fa 8 1) [(.sl 1)])]), (.sl 3)])])])]), (.k (.i .i64 100))]))])
 (.cond (.sl 34) (.seq (.q [(2, (.k (.b true)))])
 (.ret [2])) .skip)))
 (.q [(3, (.op (.bin .add) [(.sl 3), (.k (.i .i64 1))]))])))
def code40 : FCode := ⟨1, [.tmp 2],
 (.seq (.s [.box 1 (.t 0), .as 2 (.c (.b false))] [])
 (.seq (.seq (.q [(19, (.ite (.ite (.op (.bin .gtr) [(.op .len [(.op (.ld 1 false) [(.op (.fa 8 1) [(.sl 1)])])]), (.k (.i .i64 30))]) (.k (.b true)) (.op (.bin .gtr) [(.op .slen [(.op (.ld 1 false) [(.op (.fa 6 1) [(.sl 1)])])]), (.k (.i .i64 1000))])) (.k (.b true)) (.op (.bin .gtr) [(.op .slen [(.op (.ld 1 false) [(.op (.fa 7 1) [(.sl 1)])])]), (.k (.i .i64 1000))])))])
 (.cond (.sl 19) (.seq (.q [(2, (.k (.b true)))])
 (.ret [2])) .skip))
 (.seq (.seq (.q [(3, (.k (.i .i64 0)))])
 (.blk 0 (.loop [1, 3] body40_1)))
 (.seq (.q [(2, (.k (.b false)))])
 (.ret [2])))))⟩
theorem comp40 : compile Try.prog Try.f40 = some code40 := by kernel_rfl
theorem okf40 : okFn Try.prog 40 = true := by kernel_rfl
-- 42: (*corebank/reconcile.table).match$1
def code42 : FCode := ⟨2, [.tmp 3],
 (.seq (.s [.box 2 (.t 0), .as 3 (.c (.b false))] [])
 (.seq (.q [(3, (.op (.bin .eql) [(.op (.ld 1 false) [(.op (.fa 2 1) [(.sl 2)])]), (.op (.ld 1 false) [(.op (.fa 2 1) [(.sl 1)])])]))])
 (.ret [3])))⟩
theorem comp42 : compile Try.prog Try.f42 = some code42 := by kernel_rfl
theorem okf42 : okFn Try.prog 42 = true := by kernel_rfl
-- 43: (*corebank/reconcile.table).match$2
def code43 : FCode := ⟨2, [.tmp 3],
 (.seq (.s [.box 2 (.t 0), .as 3 (.c (.b false))] [])
 (.seq (.q [(3, (.op (.bin .eql) [(.op (.ld 1 false) [(.op (.fa 1 1) [(.sl 2)])]), (.op (.ld 1 false) [(.op (.fa 1 1) [(.sl 1)])])]))])
 (.ret [3])))⟩
theorem comp43 : compile Try.prog Try.f43 = some code43 := by kernel_rfl
theorem okf43 : okFn Try.prog 43 = true := by kernel_rfl
-- 44: (*corebank/reconcile.table).match$3
def code44 : FCode := ⟨2, [.tmp 3],
 (.seq (.s [.box 2 (.t 0), .as 3 (.c (.b false))] [])
 (.seq (.q [(3, (.op (.call false 45) [(.op (.ld 1 false) [(.op (.fa 1 1) [(.sl 1)])]), (.op (.ld 1 false) [(.op (.fa 1 1) [(.sl 2)])])]))])
 (.ret [3])))⟩
theorem comp44 : compile Try.prog Try.f44 = some code44 := by kernel_rfl
theorem okf44 : okFn Try.prog 44 = true := by kernel_rfl
-- 45: corebank/reconcile.near
def code45 : FCode := ⟨2, [.tmp 4],
 (.seq (.q [(4, (.k (.b false)))])
 (.seq (.q [(4, (.op (.bin .leq) [(.op (.bin .sub) [(.op (.cnv .u64) [(.op .mx [(.sl 0), (.sl 1)])]), (.op (.cnv .u64) [(.op .mn [(.sl 0), (.sl 1)])])]), (.k (.i .u64 5))]))])
 (.ret [4])))⟩
theorem comp45 : compile Try.prog Try.f45 = some code45 := by kernel_rfl
theorem okf45 : okFn Try.prog 45 = true := by kernel_rfl
-- 48: cmp.isNaN[int]
def code48 : FCode := ⟨1, [.tmp 2],
 (.seq (.q [(2, (.k (.b false)))])
 (.seq (.q [(2, (.op (.bin .neq) [(.sl 0), (.sl 0)]))])
 (.ret [2])))⟩
theorem comp48 : compile Try.prog Try.f48 = some code48 := by kernel_rfl
theorem okf48 : okFn Try.prog 48 = true := by kernel_rfl
/-- All of them. -/
def codes : List (Nat × FCode) := [(3, code3), (4, code4), (5, code5), (6, code6), (7, code7), (8, code8), (9, code9), (10, code10), (12, code12), (13, code13), (14, code14), (15, code15), (16, code16), (17, code17), (18, code18), (19, code19), (20, code20), (21, code21), (22, code22), (23, code23), (24, code24), (25, code25), (26, code26), (31, code31), (32, code32), (33, code33), (34, code34), (35, code35), (36, code36), (37, code37), (38, code38), (39, code39), (40, code40), (42, code42), (43, code43), (44, code44), (45, code45), (48, code48)]
def tab : Nat → Option FCode := tabOf codes
theorem codes_ok : ∀ p ∈ codes, ∃ fn, Try.prog.funcs[p.1]? = some fn ∧ compile Try.prog fn = some p.2 ∧ okFn Try.prog p.1 = true := by
  unfold codes
  simp only [List.forall_mem_cons]
  exact ⟨⟨_, Try.func3, comp3, okf3⟩, ⟨_, Try.func4, comp4, okf4⟩, ⟨_, Try.func5, comp5, okf5⟩, ⟨_, Try.func6, comp6, okf6⟩, ⟨_, Try.func7, comp7, okf7⟩, ⟨_, Try.func8, comp8, okf8⟩, ⟨_, Try.func9, comp9, okf9⟩, ⟨_, Try.func10, comp10, okf10⟩, ⟨_, Try.func12, comp12, okf12⟩, ⟨_, Try.func13, comp13, okf13⟩, ⟨_, Try.func14, comp14, okf14⟩, ⟨_, Try.func15, comp15, okf15⟩, ⟨_, Try.func16, comp16, okf16⟩, ⟨_, Try.func17, comp17, okf17⟩, ⟨_, Try.func18, comp18, okf18⟩, ⟨_, Try.func19, comp19, okf19⟩, ⟨_, Try.func20, comp20, okf20⟩, ⟨_, Try.func21, comp21, okf21⟩, ⟨_, Try.func22, comp22, okf22⟩, ⟨_, Try.func23, comp23, okf23⟩, ⟨_, Try.func24, comp24, okf24⟩, ⟨_, Try.func25, comp25, okf25⟩, ⟨_, Try.func26, comp26, okf26⟩, ⟨_, Try.func31, comp31, okf31⟩, ⟨_, Try.func32, comp32, okf32⟩, ⟨_, Try.func33, comp33, okf33⟩, ⟨_, Try.func34, comp34, okf34⟩, ⟨_, Try.func35, comp35, okf35⟩, ⟨_, Try.func36, comp36, okf36⟩, ⟨_, Try.func37, comp37, okf37⟩, ⟨_, Try.func38, comp38, okf38⟩, ⟨_, Try.func39, comp39, okf39⟩, ⟨_, Try.func40, comp40, okf40⟩, ⟨_, Try.func42, comp42, okf42⟩, ⟨_, Try.func43, comp43, okf43⟩, ⟨_, Try.func44, comp44, okf44⟩, ⟨_, Try.func45, comp45, okf45⟩, ⟨_, Try.func48, comp48, okf48⟩, fun _ h => by cases h⟩
end Go.Proofs.Ytmhpmghhgppdnaa
