/-
  The code of the functions that the laws reach, as the evaluator runs it: printed by a program of ours off the translation, and held against it by the kernel.
-/
import Derived.Test.YtflcddjpnbefhaaProg
import Derived.Test.YtflcddjpnbefhaaVmN
import Derived.KernelRfl
namespace Go.Proofs.Ytflcddjpnbefhaa
open Go.VM
-- 2: gosem.cut.init
def code2 : FCode := ⟨0, [],
 (.s [.call (some 0) 1 []] [0])⟩
theorem comp2 : compile Try.prog Try.f2 = some code2 := by kernel_rfl
theorem okf2 : okFn Try.prog 2 = true := by kernel_rfl
-- 3: corebank/corebanklaw41.MandateChecks
def code3 : FCode := ⟨1, [.tmp 2],
 (.seq (.q [(2, (.k (.b false)))])
 (.seq (.q [(2, (.ite (.ite (.op (.un .not) [(.op (.call false 9) [(.sl 0)])]) (.k (.b true)) (.op (.bin .eql) [(.op (.call false 10) [(.sl 0)]), (.op (.call false 11) [(.sl 0)])])) (.op (.call false 12) []) (.k (.b false))))])
 (.ret [2])))⟩
theorem comp3 : compile Try.prog Try.f3 = some code3 := by kernel_rfl
theorem okf3 : okFn Try.prog 3 = true := by kernel_rfl
-- 4: corebank/corebanklaw41.MandateSigns
def code4 : FCode := ⟨2, [.tmp 4],
 (.seq (.s [.box 3 (.t 1), .as 4 (.c (.b false))] [])
 (.seq (.seq (.q [(17, (.ite (.op (.un .not) [(.op (.call false 9) [(.sl 0)])]) (.k (.b true)) (.op (.bin .gtr) [(.op .slen [(.op (.ld 1 false) [(.op (.fa 6 1) [(.sl 3)])])]), (.k (.i .i64 100))])))])
 (.cond (.sl 17) (.seq (.q [(4, (.op (.call false 12) []))])
 (.ret [4])) .skip))
 (.seq (.s [.mv 20 (.t 0), .q 21 (.ld 7 true) [(.t 3)], .call (some 22) 13 [(.t 20), (.t 21)], .mv 19 (.t 22), .ext 23 0 19, .ext 24 1 19, .as 5 (.t 23), .as 6 (.t 24)] [20, 21, 22, 19, 23, 24])
 (.seq (.s [.mv 26 (.t 0), .q 27 (.ld 7 true) [(.t 3)], .call (some 28) 14 [(.t 26), (.t 27)], .mv 25 (.t 28), .ext 29 0 25, .ext 30 1 25, .as 7 (.t 29), .as 8 (.t 30)] [26, 27, 28, 25, 29, 30])
 (.seq (.q [(4, (.ite (.ite (.ite (.op (.call false 15) [(.sl 5), (.sl 7)]) (.op (.bin .eql) [(.sl 6), (.sl 8)]) (.k (.b false))) (.ite (.op (.bin .neq) [(.sl 6), (.k (.i .i64 0))]) (.k (.b true)) (.op (.bin .eql) [(.op (.call false 10) [(.sl 5)]), (.k (.i .i64 0))])) (.k (.b false))) (.op (.call false 12) []) (.k (.b false))))])
 (.ret [4]))))))⟩
theorem comp4 : compile Try.prog Try.f4 = some code4 := by kernel_rfl
theorem okf4 : okFn Try.prog 4 = true := by kernel_rfl
-- 5: corebank/corebanklaw41.MandateRevokes
def code5 : FCode := ⟨3, [.tmp 6],
 (.seq (.q [(6, (.k (.b false)))])
 (.seq (.seq (.q [(17, (.op (.un .not) [(.op (.call false 9) [(.sl 0)])]))])
 (.cond (.sl 17) (.seq (.q [(6, (.op (.call false 12) []))])
 (.ret [6])) .skip))
 (.seq (.s [.mv 20 (.t 0), .mv 21 (.t 1), .mv 22 (.t 2), .call (some 23) 16 [(.t 20), (.t 21), (.t 22)], .mv 19 (.t 23), .ext 24 0 19, .ext 25 1 19, .as 7 (.t 24), .as 8 (.t 25)] [20, 21, 22, 23, 19, 24, 25])
 (.seq (.s [.mv 27 (.t 0), .mv 28 (.t 1), .mv 29 (.t 2), .call (some 30) 17 [(.t 27), (.t 28), (.t 29)], .mv 26 (.t 30), .ext 31 0 26, .ext 32 1 26, .as 9 (.t 31), .as 10 (.t 32)] [27, 28, 29, 30, 26, 31, 32])
 (.seq (.s [.mv 34 (.t 0), .mv 35 (.t 1), .mv 36 (.t 2), .call (some 37) 18 [(.t 34), (.t 35), (.t 36)], .mv 33 (.t 37), .ext 38 0 33, .ext 39 1 33, .as 11 (.t 38), .as 12 (.t 39)] [34, 35, 36, 37, 33, 38, 39])
 (.seq (.s [.mv 41 (.t 0), .mv 42 (.t 1), .mv 43 (.t 2), .call (some 44) 19 [(.t 41), (.t 42), (.t 43)], .mv 40 (.t 44), .ext 45 0 40, .ext 46 1 40, .as 13 (.t 45), .as 14 (.t 46)] [41, 42, 43, 44, 40, 45, 46])
 (.seq (.q [(6, (.ite (.ite (.ite (.ite (.op (.call false 15) [(.sl 7), (.sl 9)]) (.op (.bin .eql) [(.sl 8), (.sl 10)]) (.k (.b false))) (.op (.call false 15) [(.sl 11), (.sl 13)]) (.k (.b false))) (.op (.bin .eql) [(.sl 12), (.sl 14)]) (.k (.b false))) (.op (.call false 12) []) (.k (.b false))))])
 (.ret [6]))))))))⟩
theorem comp5 : compile Try.prog Try.f5 = some code5 := by kernel_rfl
theorem okf5 : okFn Try.prog 5 = true := by kernel_rfl
-- 6: corebank/corebanklaw41.MandateAllows
def body6_1 : C :=
 (.seq (.seq (.q [(13, (.op (.bin .lss) [(.sl 5), (.op .len [(.sl 0)])]))])
 (.cond (.sl 13) .skip (.exit 0 [0, 3])))
 (.seq (.blk 1 (.seq (.q [(30, (.op (.binb .neq) [(.op (.call true 20) [(.op (.ld 7 true) [(.op (.ix 7) [(.sl 0), (.sl 5)])]), (.op (.ld 1 false) [(.op (.fa 2 1) [(.sl 3)])])]), (.op (.call true 21) [(.op (.ld 7 true) [(.op (.ix 7) [(.sl 0), (.sl 5)])]), (.op (.ld 1 false) [(.op (.fa 2 1) [(.sl 3)])])])]))])
 (.cond (.sl 30) (.seq (.q [(4, (.k (.b false)))])
 (.ret [4])) .skip)))
 (.q [(5, (.op (.bin .add) [(.sl 5), (.k (.i .i64 1))]))])))
def code6 : FCode := ⟨2, [.tmp 4],
 (.seq (.s [.box 3 (.t 1), .as 4 (.c (.b false))] [])
 (.seq (.seq (.q [(8, (.op (.un .not) [(.op (.call false 9) [(.sl 0)])]))])
 (.cond (.sl 8) (.seq (.q [(4, (.op (.call false 12) []))])
 (.ret [4])) .skip))
 (.seq (.seq (.q [(5, (.k (.i .i64 0)))])
 (.blk 0 (.loop [0, 3, 5] body6_1)))
 (.seq (.q [(4, (.ite (.op (.bin .eql) [(.op (.call true 22) [(.sl 0), (.op (.ld 1 false) [(.op (.fa 0 1) [(.sl 3)])]), (.op (.ld 1 false) [(.op (.fa 1 1) [(.sl 3)])]), (.op (.ld 1 false) [(.op (.fa 2 1) [(.sl 3)])])]), (.op (.call true 23) [(.sl 0), (.op (.ld 1 false) [(.op (.fa 0 1) [(.sl 3)])]), (.op (.ld 1 false) [(.op (.fa 1 1) [(.sl 3)])]), (.op (.ld 1 false) [(.op (.fa 2 1) [(.sl 3)])])])]) (.op (.call true 12) []) (.k (.b false))))])
 (.ret [4])))))⟩
theorem comp6 : compile Try.prog Try.f6 = some code6 := by kernel_rfl
theorem okf6 : okFn Try.prog 6 = true := by kernel_rfl
-- 7: corebank/corebanklaw41.MandateGuards
def body7_1 : C :=
 (.seq (.seq (.q [(31, (.op (.bin .lss) [(.sl 6), (.op .len [(.sl 0)])]))])
 (.cond (.sl 31) .skip (.exit 0 [0, 3, 5])))
 (.seq (.blk 1 (.seq (.s [.mv 34 (.t 0), .mv 35 (.t 6), .ix 36 7 (.t 34) (.t 35), .q 37 (.ld 7 true) [(.t 36)], .alo 7 [(.i .i64 0), (.i .i64 0), (.i .i64 0), (.i .i64 0), (.i .i64 0), (.i .i64 0), (.s [])], .sto 7 (.t 7) (.t 37)] [34, 35, 36, 37])
 (.seq (.q [(8, (.ite (.ite (.op (.bin .leq) [(.op (.ld 1 false) [(.op (.fa 2 1) [(.sl 3)])]), (.op (.bin .add) [(.op (.ld 1 false) [(.op (.fa 3 1) [(.sl 7)])]), (.k (.i .i64 1096))])]) (.op (.bin .eql) [(.op (.ld 1 false) [(.op (.fa 4 1) [(.sl 7)])]), (.k (.i .i64 0))]) (.k (.b false))) (.k (.b true)) (.ite (.op (.bin .gtr) [(.op (.ld 1 false) [(.op (.fa 4 1) [(.sl 7)])]), (.k (.i .i64 0))]) (.op (.bin .leq) [(.op (.ld 1 false) [(.op (.fa 2 1) [(.sl 3)])]), (.op (.bin .add) [(.op (.ld 1 false) [(.op (.fa 4 1) [(.sl 7)])]), (.k (.i .i64 1096))])]) (.k (.b false)))))])
 (.q [(5, (.ite (.sl 5) (.k (.b true)) (.ite (.ite (.ite (.ite (.op (.bin .eql) [(.op (.ld 1 false) [(.op (.fa 0 1) [(.sl 7)])]), (.op (.ld 1 false) [(.op (.fa 0 1) [(.sl 3)])])]) (.op (.bin .leq) [(.op (.ld 1 false) [(.op (.fa 3 1) [(.sl 7)])]), (.op (.ld 1 false) [(.op (.fa 2 1) [(.sl 3)])])]) (.k (.b false))) (.ite (.op (.bin .eql) [(.op (.ld 1 false) [(.op (.fa 5 1) [(.sl 7)])]), (.k (.i .i64 0))]) (.k (.b true)) (.op (.bin .lss) [(.op (.ld 1 false) [(.op (.fa 2 1) [(.sl 3)])]), (.op (.ld 1 false) [(.op (.fa 5 1) [(.sl 7)])])])) (.k (.b false))) (.sl 8) (.k (.b false))) (.ite (.op (.bin .eql) [(.op (.ld 1 false) [(.op (.fa 2 1) [(.sl 7)])]), (.k (.i .i64 0))]) (.k (.b true)) (.op (.bin .leq) [(.op (.ld 1 false) [(.op (.fa 1 1) [(.sl 3)])]), (.op (.ld 1 false) [(.op (.fa 2 1) [(.sl 7)])])])) (.k (.b false)))))]))))
 (.q [(6, (.op (.bin .add) [(.sl 6), (.k (.i .i64 1))]))])))
def code7 : FCode := ⟨2, [.tmp 4],
 (.seq (.s [.box 3 (.t 1), .as 4 (.c (.b false))] [])
 (.seq (.seq (.q [(26, (.ite (.ite (.ite (.op (.un .not) [(.op (.call false 9) [(.sl 0)])]) (.k (.b true)) (.op (.bin .neq) [(.op (.call false 11) [(.sl 0)]), (.k (.i .i64 0))])) (.k (.b true)) (.op (.bin .lss) [(.op (.ld 1 false) [(.op (.fa 2 1) [(.sl 3)])]), (.k (.i .i64 0))])) (.k (.b true)) (.op (.bin .gtr) [(.op (.ld 1 false) [(.op (.fa 2 1) [(.sl 3)])]), (.k (.i .i64 73048))])))])
 (.cond (.sl 26) (.seq (.q [(4, (.op (.call false 12) []))])
 (.ret [4])) .skip))
 (.seq (.q [(5, (.k (.b false)))])
 (.seq (.seq (.q [(6, (.k (.i .i64 0)))])
 (.blk 0 (.loop [0, 3, 5, 6] body7_1)))
 (.seq (.q [(4, (.ite (.op (.binb .eql) [(.op (.bin .eql) [(.op (.call false 22) [(.sl 0), (.op (.ld 1 false) [(.op (.fa 0 1) [(.sl 3)])]), (.op (.ld 1 false) [(.op (.fa 1 1) [(.sl 3)])]), (.op (.ld 1 false) [(.op (.fa 2 1) [(.sl 3)])])]), (.k (.i .i64 0))]), (.sl 5)]) (.op (.call false 12) []) (.k (.b false))))])
 (.ret [4]))))))⟩
theorem comp7 : compile Try.prog Try.f7 = some code7 := by kernel_rfl
theorem okf7 : okFn Try.prog 7 = true := by kernel_rfl
-- 8: corebank/corebanklaw41.MandateEnds
def body8_1 : C :=
 (.seq (.seq (.q [(57, (.op (.bin .lss) [(.sl 11), (.op .len [(.sl 0)])]))])
 (.cond (.sl 57) .skip (.exit 0 [0, 2, 4, 7])))
 (.seq (.blk 1 (.seq (.q [(92, (.ite (.op (.bin .neq) [(.op (.ld 1 false) [(.op (.fa 0 1) [(.op (.ix 7) [(.sl 0), (.sl 11)])])]), (.op (.ld 1 false) [(.op (.fa 0 1) [(.sl 4)])])]) (.op (.bin .neq) [(.op (.call true 22) [(.sl 7), (.op (.ld 1 false) [(.op (.fa 0 1) [(.op (.ix 7) [(.sl 0), (.sl 11)])])]), (.op (.ld 1 false) [(.op (.fa 1 1) [(.sl 4)])]), (.op (.ld 1 false) [(.op (.fa 2 1) [(.sl 4)])])]), (.op (.call true 22) [(.sl 0), (.op (.ld 1 false) [(.op (.fa 0 1) [(.op (.ix 7) [(.sl 0), (.sl 11)])])]), (.op (.ld 1 false) [(.op (.fa 1 1) [(.sl 4)])]), (.op (.ld 1 false) [(.op (.fa 2 1) [(.sl 4)])])])]) (.k (.b false))))])
 (.cond (.sl 92) (.seq (.q [(6, (.k (.b false)))])
 (.ret [6])) .skip)))
 (.q [(11, (.op (.bin .add) [(.sl 11), (.k (.i .i64 1))]))])))
def code8 : FCode := ⟨3, [.tmp 6],
 (.seq (.s [.box 4 (.t 1), .as 6 (.c (.b false))] [])
 (.seq (.seq (.q [(20, (.ite (.op (.un .not) [(.op (.call false 9) [(.sl 0)])]) (.k (.b true)) (.op (.bin .neq) [(.op (.call false 11) [(.sl 0)]), (.k (.i .i64 0))])))])
 (.cond (.sl 20) (.seq (.q [(6, (.op (.call false 12) []))])
 (.ret [6])) .skip))
 (.seq (.s [.mv 23 (.t 0), .fa 24 0 1 (.t 4), .q 25 (.ld 1 false) [(.t 24)], .mv 26 (.t 2), .call (some 27) 16 [(.t 23), (.t 25), (.t 26)], .mv 22 (.t 27), .ext 28 0 22, .ext 29 1 22, .as 7 (.t 28), .as 8 (.t 29)] [23, 24, 25, 26, 27, 22, 28, 29])
 (.seq (.seq (.q [(31, (.op (.bin .neq) [(.sl 8), (.k (.i .i64 0))]))])
 (.cond (.sl 31) (.seq (.s [.mv 33 (.t 0), .fa 34 0 1 (.t 4), .q 35 (.ld 1 false) [(.t 34)], .mv 36 (.t 2), .call (some 37) 17 [(.t 33), (.t 35), (.t 36)], .mv 32 (.t 37), .ext 38 0 32, .ext 39 1 32, .as 9 (.t 38), .as 10 (.t 39)] [33, 34, 35, 36, 37, 32, 38, 39, 9])
 (.seq (.q [(6, (.ite (.ite (.op (.bin .eql) [(.op .len [(.sl 7)]), (.k (.i .i64 0))]) (.op (.bin .eql) [(.sl 8), (.sl 10)]) (.k (.b false))) (.op (.call false 12) []) (.k (.b false))))])
 (.ret [6]))) .skip))
 (.seq (.seq (.q [(53, (.op (.bin .neq) [(.op (.call false 10) [(.sl 7)]), (.k (.i .i64 0))]))])
 (.cond (.sl 53) (.seq (.q [(6, (.k (.b false)))])
 (.ret [6])) .skip))
 (.seq (.seq (.q [(11, (.k (.i .i64 0)))])
 (.blk 0 (.loop [0, 2, 4, 7, 11] body8_1)))
 (.seq (.q [(12, (.op (.call false 22) [(.sl 7), (.op (.ld 1 false) [(.op (.fa 0 1) [(.sl 4)])]), (.op (.ld 1 false) [(.op (.fa 1 1) [(.sl 4)])]), (.op (.ld 1 false) [(.op (.fa 2 1) [(.sl 4)])])]))])
 (.seq (.seq (.q [(104, (.op (.bin .geq) [(.op (.ld 1 false) [(.op (.fa 2 1) [(.sl 4)])]), (.sl 2)]))])
 (.cond (.sl 104) (.seq (.q [(6, (.ite (.op (.bin .eql) [(.sl 12), (.k (.i .i64 17))]) (.op (.call false 12) []) (.k (.b false))))])
 (.ret [6])) .skip))
 (.seq (.q [(6, (.ite (.op (.bin .eql) [(.sl 12), (.op (.call false 22) [(.sl 0), (.op (.ld 1 false) [(.op (.fa 0 1) [(.sl 4)])]), (.op (.ld 1 false) [(.op (.fa 1 1) [(.sl 4)])]), (.op (.ld 1 false) [(.op (.fa 2 1) [(.sl 4)])])])]) (.op (.call false 12) []) (.k (.b false))))])
 (.ret [6]))))))))))⟩
theorem comp8 : compile Try.prog Try.f8 = some code8 := by kernel_rfl
theorem okf8 : okFn Try.prog 8 = true := by kernel_rfl
-- 9: corebank/corebanklaw41.short
def body9_1 : C :=
 (.seq (.seq (.q [(11, (.ite (.op (.bin .lss) [(.sl 3), (.op .len [(.sl 0)])]) (.op (.bin .lss) [(.sl 3), (.k (.i .i64 101))]) (.k (.b false))))])
 (.cond (.sl 11) .skip (.exit 0 [0])))
 (.seq (.blk 1 (.seq (.q [(20, (.op (.bin .gtr) [(.op .slen [(.op (.ld 1 false) [(.op (.fa 6 1) [(.op (.ix 7) [(.sl 0), (.sl 3)])])])]), (.k (.i .i64 100))]))])
 (.cond (.sl 20) (.seq (.q [(2, (.k (.b false)))])
 (.ret [2])) .skip)))
 (.q [(3, (.op (.bin .add) [(.sl 3), (.k (.i .i64 1))]))])))
def code9 : FCode := ⟨1, [.tmp 2],
 (.seq (.q [(2, (.k (.b false)))])
 (.seq (.seq (.q [(3, (.k (.i .i64 0)))])
 (.blk 0 (.loop [0, 3] body9_1)))
 (.seq (.q [(2, (.op (.bin .leq) [(.op .len [(.sl 0)]), (.k (.i .i64 100))]))])
 (.ret [2]))))⟩
theorem comp9 : compile Try.prog Try.f9 = some code9 := by kernel_rfl
theorem okf9 : okFn Try.prog 9 = true := by kernel_rfl
-- 10: corebank/mandate.Check
def body10_1 : C :=
 (.seq (.q [(11, (.op (.bin .lss) [(.sl 10), (.sl 9)]))])
 (.seq (.cond (.sl 11) .skip (.exit 0 []))
 (.seq (.blk 1 (.seq (.s [.mv 12 (.t 10), .ix 13 7 (.t 8) (.t 10), .q 14 (.ld 7 true) [(.t 13)], .alo 4 [(.i .i64 0), (.i .i64 0), (.i .i64 0), (.i .i64 0), (.i .i64 0), (.i .i64 0), (.s [])], .as 3 (.t 12), .sto 7 (.t 4) (.t 14)] [12, 13, 14])
 (.blk 2 (.seq (.q [(15, (.op (.un .not) [(.op (.call false 24) [(.op (.ld 7 true) [(.sl 4)])])]))])
 (.cond (.sl 15) (.seq (.q [(2, (.k (.i .i64 1)))])
 (.ret [2])) (.seq (.q [(19, (.op (.un .not) [(.op (.call false 25) [(.op (.ld 1 false) [(.op (.fa 6 1) [(.sl 4)])])])]))])
 (.cond (.sl 19) (.seq (.q [(2, (.k (.i .i64 4)))])
 (.ret [2])) (.seq (.q [(24, (.ite (.op (.bin .gtr) [(.sl 3), (.k (.i .i64 0))]) (.op (.bin .leq) [(.op (.ld 1 false) [(.op (.fa 0 1) [(.sl 4)])]), (.op (.ld 1 false) [(.op (.fa 0 1) [(.op (.ix 7) [(.sl 0), (.op (.bin .sub) [(.sl 3), (.k (.i .i64 1))])])])])]) (.k (.b false))))])
 (.cond (.sl 24) (.seq (.q [(2, (.k (.i .i64 10)))])
 (.ret [2])) .skip)))))))))
 (.q [(10, (.op (.bin .add) [(.sl 10), (.k (.i .i64 1))]))]))))
def code10 : FCode := ⟨1, [.tmp 2],
 (.seq (.q [(2, (.k (.i .i64 0)))])
 (.seq (.seq (.q [(7, (.op (.bin .gtr) [(.op .len [(.sl 0)]), (.k (.i .i64 64))]))])
 (.cond (.sl 7) (.seq (.q [(2, (.k (.i .i64 5)))])
 (.ret [2])) .skip))
 (.seq (.seq (.s [.mv 8 (.t 0), .q 9 .len [(.t 8)], .mv 10 (.c (.i .i64 0))] [])
 (.blk 0 (.loop [0, 8, 9, 10] body10_1)))
 (.seq (.q [(2, (.k (.i .i64 0)))])
 (.ret [2])))))⟩
theorem comp10 : compile Try.prog Try.f10 = some code10 := by kernel_rfl
theorem okf10 : okFn Try.prog 10 = true := by kernel_rfl
-- 11: corebank/corebankref41.Check
def body11_1 : C :=
 (.seq (.seq (.q [(10, (.op (.bin .lss) [(.sl 3), (.op .len [(.sl 0)])]))])
 (.cond (.sl 10) .skip (.exit 0 [])))
 (.seq (.blk 1 (.seq (.seq (.q [(18, (.op (.un .not) [(.op (.call false 26) [(.op (.ld 7 true) [(.op (.ix 7) [(.sl 0), (.sl 3)])])])]))])
 (.cond (.sl 18) (.seq (.q [(2, (.k (.i .i64 1)))])
 (.ret [2])) .skip))
 (.seq (.seq (.q [(25, (.op (.un .not) [(.op (.call false 27) [(.op (.ld 1 false) [(.op (.fa 6 1) [(.op (.ix 7) [(.sl 0), (.sl 3)])])])])]))])
 (.cond (.sl 25) (.seq (.q [(2, (.k (.i .i64 4)))])
 (.ret [2])) .skip))
 (.seq (.q [(41, (.ite (.op (.bin .gtr) [(.sl 3), (.k (.i .i64 0))]) (.op (.bin .leq) [(.op (.ld 1 false) [(.op (.fa 0 1) [(.op (.ix 7) [(.sl 0), (.sl 3)])])]), (.op (.ld 1 false) [(.op (.fa 0 1) [(.op (.ix 7) [(.sl 0), (.op (.bin .sub) [(.sl 3), (.k (.i .i64 1))])])])])]) (.k (.b false))))])
 (.cond (.sl 41) (.seq (.q [(2, (.k (.i .i64 10)))])
 (.ret [2])) .skip)))))
 (.q [(3, (.op (.bin .add) [(.sl 3), (.k (.i .i64 1))]))])))
def code11 : FCode := ⟨1, [.tmp 2],
 (.seq (.q [(2, (.k (.i .i64 0)))])
 (.seq (.seq (.q [(6, (.op (.bin .gtr) [(.op .len [(.sl 0)]), (.k (.i .i64 64))]))])
 (.cond (.sl 6) (.seq (.q [(2, (.k (.i .i64 5)))])
 (.ret [2])) .skip))
 (.seq (.seq (.q [(3, (.k (.i .i64 0)))])
 (.blk 0 (.loop [0, 3] body11_1)))
 (.seq (.q [(2, (.k (.i .i64 0)))])
 (.ret [2])))))⟩
theorem comp11 : compile Try.prog Try.f11 = some code11 := by kernel_rfl
theorem okf11 : okFn Try.prog 11 = true := by kernel_rfl
-- 12: corebank/corebanklaw41.live
def code12 : FCode := ⟨0, [.tmp 0],
 (.seq (.q [(0, (.k (.b false)))])
 (.seq (.s [.bld 8 [(.i .i64 0), (.i .i64 0), (.i .i64 0), (.i .i64 0), (.i .i64 0), (.i .i64 0), (.s [])] [(0, 1), (1, 1), (2, 1), (3, 1), (6, 1)] [(.c (.i .i64 1)), (.c (.i .i64 1000)), (.c (.i .i64 500)), (.c (.i .i64 10)), (.c (.s [103, 97, 115]))], .alo 1 [(.i .i64 0), (.i .i64 0), (.i .i64 0), (.i .i64 0), (.i .i64 0), (.i .i64 0), (.s [])], .sto 7 (.t 1) (.t 8)] [8])
 (.seq (.s [.q 10 (.ld 7 true) [(.t 1)], .call (some 11) 13 [(.c (.l [])), (.t 10)], .mv 9 (.t 11), .ext 12 0 9, .ext 13 1 9, .as 2 (.t 12), .as 3 (.t 13)] [10, 11, 9, 12, 13])
 (.seq (.s [.mv 15 (.t 2), .call (some 16) 16 [(.t 15), (.c (.i .i64 1)), (.c (.i .i64 30))], .mv 14 (.t 16), .ext 17 0 14, .ext 18 1 14, .as 4 (.t 17), .as 5 (.t 18)] [15, 16, 14, 17, 18])
 (.seq (.s [.mv 20 (.t 2), .call (some 21) 18 [(.t 20), (.c (.i .i64 1)), (.c (.i .i64 20))], .mv 19 (.t 21), .ext 22 0 19, .ext 23 1 19, .as 6 (.t 22), .as 7 (.t 23)] [20, 21, 19, 22, 23])
 (.seq (.seq (.q [(48, (.ite (.ite (.ite (.ite (.ite (.op (.bin .neq) [(.sl 3), (.k (.i .i64 0))]) (.k (.b true)) (.op (.bin .neq) [(.sl 5), (.k (.i .i64 0))])) (.k (.b true)) (.op (.bin .neq) [(.sl 7), (.k (.i .i64 0))])) (.k (.b true)) (.op (.bin .neq) [(.op .len [(.sl 2)]), (.k (.i .i64 1))])) (.k (.b true)) (.op (.bin .neq) [(.op .len [(.sl 4)]), (.k (.i .i64 1))])) (.k (.b true)) (.op (.bin .neq) [(.op .len [(.sl 6)]), (.k (.i .i64 1))])))])
 (.cond (.sl 48) (.seq (.q [(0, (.k (.b false)))])
 (.ret [0])) .skip))
 (.seq (.q [(0, (.ite (.ite (.ite (.ite (.ite (.ite (.ite (.ite (.ite (.op (.bin .eql) [(.op (.call false 10) [(.sl 4)]), (.k (.i .i64 0))]) (.op (.bin .eql) [(.op (.call false 22) [(.sl 2), (.k (.i .i64 1)), (.k (.i .i64 500)), (.k (.i .i64 10))]), (.k (.i .i64 0))]) (.k (.b false))) (.op (.bin .eql) [(.op (.call false 22) [(.sl 2), (.k (.i .i64 1)), (.k (.i .i64 501)), (.k (.i .i64 10))]), (.k (.i .i64 18))]) (.k (.b false))) (.op (.bin .eql) [(.op (.call false 22) [(.sl 2), (.k (.i .i64 1)), (.k (.i .i64 5)), (.k (.i .i64 9))]), (.k (.i .i64 17))]) (.k (.b false))) (.op (.bin .eql) [(.op (.call false 22) [(.sl 2), (.k (.i .i64 1)), (.k (.i .i64 500)), (.k (.i .i64 1107))]), (.k (.i .i64 23))]) (.k (.b false))) (.op (.bin .eql) [(.op (.call false 22) [(.sl 6), (.k (.i .i64 1)), (.k (.i .i64 500)), (.k (.i .i64 1116))]), (.k (.i .i64 0))]) (.k (.b false))) (.op (.bin .eql) [(.op (.call false 22) [(.sl 4), (.k (.i .i64 1)), (.k (.i .i64 5)), (.k (.i .i64 30))]), (.k (.i .i64 17))]) (.k (.b false))) (.op (.bin .eql) [(.op (.call false 22) [(.sl 4), (.k (.i .i64 1)), (.k (.i .i64 5)), (.k (.i .i64 29))]), (.k (.i .i64 0))]) (.k (.b false))) (.op (.call false 20) [(.op (.ld 7 true) [(.sl 1)]), (.k (.i .i64 1107))]) (.k (.b false))) (.op (.un .not) [(.op (.call false 20) [(.op (.ld 7 true) [(.sl 1)]), (.k (.i .i64 1106))])]) (.k (.b false))))])
 (.ret [0]))))))))⟩
theorem comp12 : compile Try.prog Try.f12 = some code12 := by kernel_rfl
theorem okf12 : okFn Try.prog 12 = true := by kernel_rfl
-- 13: corebank/mandate.Sign
def code13 : FCode := ⟨2, [.tmp 4, .tmp 5],
 (.seq (.s [.box 3 (.t 1), .as 4 (.c (.ow 28 [])), .as 5 (.c (.i .i64 0))] [])
 (.seq (.blk 0 (.seq (.q [(6, (.ite (.ite (.ite (.op (.bin .neq) [(.op (.call false 10) [(.sl 0)]), (.k (.i .i64 0))]) (.k (.b true)) (.op (.bin .neq) [(.op (.call false 10) [(.op (.bsl 7) [(.op (.ld 7 true) [(.sl 3)])])]), (.k (.i .i64 0))])) (.k (.b true)) (.op (.bin .neq) [(.op (.ld 1 false) [(.op (.fa 4 1) [(.sl 3)])]), (.k (.i .i64 0))])) (.k (.b true)) (.op (.bin .neq) [(.op (.ld 1 false) [(.op (.fa 5 1) [(.sl 3)])]), (.k (.i .i64 0))])))])
 (.cond (.sl 6) (.seq (.s [.as 4 (.c (.ow 28 [])), .as 5 (.c (.i .i64 1))] [])
 (.ret [4, 5])) (.seq (.q [(26, (.ite (.op (.bin .gtr) [(.op .len [(.sl 0)]), (.k (.i .i64 0))]) (.op (.bin .leq) [(.op (.ld 1 false) [(.op (.fa 0 1) [(.sl 3)])]), (.op (.ld 1 false) [(.op (.fa 0 1) [(.op (.ix 7) [(.sl 0), (.op (.bin .sub) [(.op .len [(.sl 0)]), (.k (.i .i64 1))])])])])]) (.k (.b false))))])
 (.cond (.sl 26) (.seq (.s [.as 4 (.c (.ow 28 [])), .as 5 (.c (.i .i64 10))] [])
 (.ret [4, 5])) (.seq (.q [(42, (.op (.bin .geq) [(.op .len [(.sl 0)]), (.k (.i .i64 64))]))])
 (.cond (.sl 42) (.seq (.s [.as 4 (.c (.ow 28 [])), .as 5 (.c (.i .i64 5))] [])
 (.ret [4, 5])) .skip)))))))
 (.seq (.d [.mv 46 (.t 0), .call (some 47) 28 [(.t 46)], .q 48 (.ld 7 true) [(.t 3)], .bsl 49 28 7 [(.t 48)], .app 50 28 7 64 (.t 47) (.t 49), .as 4 (.t 50), .as 5 (.c (.i .i64 0))] [[], [0], [], [2], [1, 3, 1], [4, 4, 0, 1, 2, 3, 4], [5, 0, 1, 2, 3, 4, 5]] [46, 47, 48, 49, 50])
 (.ret [4, 5]))))⟩
theorem comp13 : compile Try.prog Try.f13 = some code13 := by kernel_rfl
theorem okf13 : okFn Try.prog 13 = true := by kernel_rfl
-- 14: corebank/corebankref41.Sign
def code14 : FCode := ⟨2, [.tmp 4, .tmp 5],
 (.seq (.s [.box 3 (.t 1), .as 4 (.c (.ow 28 [])), .as 5 (.c (.i .i64 0))] [])
 (.seq (.seq (.q [(24, (.ite (.ite (.ite (.op (.bin .neq) [(.op (.call false 11) [(.sl 0)]), (.k (.i .i64 0))]) (.k (.b true)) (.op (.bin .neq) [(.op (.call false 11) [(.op (.bsl 7) [(.op (.ld 7 true) [(.sl 3)])])]), (.k (.i .i64 0))])) (.k (.b true)) (.op (.bin .neq) [(.op (.ld 1 false) [(.op (.fa 4 1) [(.sl 3)])]), (.k (.i .i64 0))])) (.k (.b true)) (.op (.bin .neq) [(.op (.ld 1 false) [(.op (.fa 5 1) [(.sl 3)])]), (.k (.i .i64 0))])))])
 (.cond (.sl 24) (.seq (.s [.as 4 (.c (.ow 28 [])), .as 5 (.c (.i .i64 1))] [])
 (.ret [4, 5])) .skip))
 (.seq (.seq (.q [(39, (.ite (.op (.bin .gtr) [(.op .len [(.sl 0)]), (.k (.i .i64 0))]) (.op (.bin .leq) [(.op (.ld 1 false) [(.op (.fa 0 1) [(.sl 3)])]), (.op (.ld 1 false) [(.op (.fa 0 1) [(.op (.ix 7) [(.sl 0), (.op (.bin .sub) [(.op .len [(.sl 0)]), (.k (.i .i64 1))])])])])]) (.k (.b false))))])
 (.cond (.sl 39) (.seq (.s [.as 4 (.c (.ow 28 [])), .as 5 (.c (.i .i64 10))] [])
 (.ret [4, 5])) .skip))
 (.seq (.seq (.q [(42, (.op (.bin .geq) [(.op .len [(.sl 0)]), (.k (.i .i64 64))]))])
 (.cond (.sl 42) (.seq (.s [.as 4 (.c (.ow 28 [])), .as 5 (.c (.i .i64 5))] [])
 (.ret [4, 5])) .skip))
 (.seq (.d [.bsl 43 28 7 [], .mv 44 (.t 0), .app 45 28 7 64 (.t 43) (.t 44), .q 46 (.ld 7 true) [(.t 3)], .bsl 47 28 7 [(.t 46)], .app 48 28 7 64 (.t 45) (.t 47), .as 4 (.t 48), .as 5 (.c (.i .i64 0))] [[], [], [0, 1], [], [3], [2, 4, 2], [5, 5, 0, 1, 2, 3, 4, 5], [6, 0, 1, 2, 3, 4, 5, 6]] [43, 44, 45, 46, 47, 48])
 (.ret [4, 5]))))))⟩
theorem comp14 : compile Try.prog Try.f14 = some code14 := by kernel_rfl
theorem okf14 : okFn Try.prog 14 = true := by kernel_rfl
-- 15: corebank/corebankref41.SameAll
def body15_1 : C :=
 (.seq (.seq (.q [(14, (.op (.bin .lss) [(.sl 5), (.op .len [(.sl 0)])]))])
 (.cond (.sl 14) .skip (.exit 0 [])))
 (.seq (.blk 1 (.seq (.q [(25, (.op (.eqa true [1, 1, 1, 1, 1, 1, 2]) [(.op (.ld 7 true) [(.op (.ix 7) [(.sl 0), (.sl 5)])]), (.op (.ld 7 true) [(.op (.ix 7) [(.sl 1), (.sl 5)])])]))])
 (.cond (.sl 25) (.seq (.q [(4, (.k (.b false)))])
 (.ret [4])) .skip)))
 (.q [(5, (.op (.bin .add) [(.sl 5), (.k (.i .i64 1))]))])))
def code15 : FCode := ⟨2, [.tmp 4],
 (.seq (.q [(4, (.k (.b false)))])
 (.seq (.seq (.q [(10, (.op (.bin .neq) [(.op .len [(.sl 0)]), (.op .len [(.sl 1)])]))])
 (.cond (.sl 10) (.seq (.q [(4, (.k (.b false)))])
 (.ret [4])) .skip))
 (.seq (.seq (.q [(5, (.k (.i .i64 0)))])
 (.blk 0 (.loop [0, 1, 5] body15_1)))
 (.seq (.q [(4, (.k (.b true)))])
 (.ret [4])))))⟩
theorem comp15 : compile Try.prog Try.f15 = some code15 := by kernel_rfl
theorem okf15 : okFn Try.prog 15 = true := by kernel_rfl
-- 16: corebank/mandate.Revoke
def code16 : FCode := ⟨3, [.tmp 6, .tmp 7],
 (.seq (.s [.as 6 (.c (.ow 28 [])), .as 7 (.c (.i .i64 0))] [])
 (.seq (.q [(8, (.op (.ext 0) [(.op (.call false 29) [(.sl 0), (.sl 1)])])), (9, (.op (.ext 1) [(.op (.call false 29) [(.sl 0), (.sl 1)])]))])
 (.seq (.blk 0 (.seq (.q [(17, (.op (.un .not) [(.sl 9)]))])
 (.cond (.sl 17) (.seq (.s [.as 6 (.c (.ow 28 [])), .as 7 (.c (.i .i64 11))] [])
 (.ret [6, 7])) (.seq (.q [(20, (.op (.bin .neq) [(.op (.ld 1 false) [(.op (.fa 5 1) [(.op (.ix 7) [(.sl 0), (.sl 8)])])]), (.k (.i .i64 0))]))])
 (.cond (.sl 20) (.seq (.s [.as 6 (.c (.ow 28 [])), .as 7 (.c (.i .i64 17))] [])
 (.ret [6, 7])) (.seq (.q [(27, (.ite (.ite (.op (.bin .lss) [(.sl 2), (.k (.i .i64 1))]) (.k (.b true)) (.op (.bin .gtr) [(.sl 2), (.k (.i .i64 73048))])) (.k (.b true)) (.op (.bin .lss) [(.sl 2), (.op (.ld 1 false) [(.op (.fa 3 1) [(.op (.ix 7) [(.sl 0), (.sl 8)])])])])))])
 (.cond (.sl 27) (.seq (.s [.as 6 (.c (.ow 28 [])), .as 7 (.c (.i .i64 1))] [])
 (.ret [6, 7])) .skip)))))))
 (.seq (.s [.mv 43 (.t 0), .call (some 44) 28 [(.t 43)], .as 10 (.t 44)] [43, 44])
 (.seq (.s [.mv 45 (.t 10), .mv 46 (.t 8), .mv 47 (.t 2), .ix 48 7 (.t 45) (.t 46), .fa 49 5 1 (.t 48), .sto 1 (.t 49) (.t 47)] [45, 46, 47, 48, 49])
 (.seq (.s [.mv 50 (.t 10), .as 6 (.t 50), .as 7 (.c (.i .i64 0))] [50])
 (.ret [6, 7])))))))⟩
theorem comp16 : compile Try.prog Try.f16 = some code16 := by kernel_rfl
theorem okf16 : okFn Try.prog 16 = true := by kernel_rfl
-- 17: corebank/corebankref41.Revoke
def code17 : FCode := ⟨3, [.tmp 6, .tmp 7],
 (.seq (.s [.as 6 (.c (.ow 28 [])), .as 7 (.c (.i .i64 0))] [])
 (.seq (.q [(8, (.op (.call false 30) [(.sl 0), (.sl 1)]))])
 (.seq (.seq (.q [(14, (.op (.bin .lss) [(.sl 8), (.k (.i .i64 0))]))])
 (.cond (.sl 14) (.seq (.s [.as 6 (.c (.ow 28 [])), .as 7 (.c (.i .i64 11))] [])
 (.ret [6, 7])) .skip))
 (.seq (.seq (.q [(20, (.op (.bin .neq) [(.op (.ld 1 false) [(.op (.fa 5 1) [(.op (.ix 7) [(.sl 0), (.sl 8)])])]), (.k (.i .i64 0))]))])
 (.cond (.sl 20) (.seq (.s [.as 6 (.c (.ow 28 [])), .as 7 (.c (.i .i64 17))] [])
 (.ret [6, 7])) .skip))
 (.seq (.seq (.q [(35, (.ite (.ite (.op (.bin .lss) [(.sl 2), (.k (.i .i64 1))]) (.k (.b true)) (.op (.bin .gtr) [(.sl 2), (.k (.i .i64 73048))])) (.k (.b true)) (.op (.bin .lss) [(.sl 2), (.op (.ld 1 false) [(.op (.fa 3 1) [(.op (.ix 7) [(.sl 0), (.sl 8)])])])])))])
 (.cond (.sl 35) (.seq (.s [.as 6 (.c (.ow 28 [])), .as 7 (.c (.i .i64 1))] [])
 (.ret [6, 7])) .skip))
 (.seq (.s [.bsl 36 28 7 [], .mv 37 (.t 0), .app 38 28 7 64 (.t 36) (.t 37), .as 9 (.t 38)] [36, 37, 38])
 (.seq (.s [.mv 39 (.t 9), .mv 40 (.t 8), .mv 41 (.t 2), .ix 42 7 (.t 39) (.t 40), .fa 43 5 1 (.t 42), .sto 1 (.t 43) (.t 41)] [39, 40, 41, 42, 43])
 (.seq (.s [.mv 44 (.t 9), .as 6 (.t 44), .as 7 (.c (.i .i64 0))] [44])
 (.ret [6, 7])))))))))⟩
theorem comp17 : compile Try.prog Try.f17 = some code17 := by kernel_rfl
theorem okf17 : okFn Try.prog 17 = true := by kernel_rfl
-- 18: corebank/mandate.Use
def code18 : FCode := ⟨3, [.tmp 6, .tmp 7],
 (.seq (.s [.as 6 (.c (.ow 28 [])), .as 7 (.c (.i .i64 0))] [])
 (.seq (.q [(8, (.op (.ext 0) [(.op (.call false 29) [(.sl 0), (.sl 1)])])), (9, (.op (.ext 1) [(.op (.call false 29) [(.sl 0), (.sl 1)])]))])
 (.seq (.blk 0 (.seq (.q [(17, (.op (.un .not) [(.sl 9)]))])
 (.cond (.sl 17) (.seq (.s [.as 6 (.c (.ow 28 [])), .as 7 (.c (.i .i64 11))] [])
 (.ret [6, 7])) (.seq (.q [(20, (.ite (.op (.bin .lss) [(.sl 2), (.k (.i .i64 1))]) (.k (.b true)) (.op (.bin .gtr) [(.sl 2), (.k (.i .i64 73048))])))])
 (.cond (.sl 20) (.seq (.s [.as 6 (.c (.ow 28 [])), .as 7 (.c (.i .i64 1))] [])
 (.ret [6, 7])) (.seq (.q [(27, (.op (.bin .lss) [(.sl 2), (.op .mx [(.op (.ld 1 false) [(.op (.fa 3 1) [(.op (.ix 7) [(.sl 0), (.sl 8)])])]), (.op (.ld 1 false) [(.op (.fa 4 1) [(.op (.ix 7) [(.sl 0), (.sl 8)])])])])]))])
 (.cond (.sl 27) (.seq (.s [.as 6 (.c (.ow 28 [])), .as 7 (.c (.i .i64 10))] [])
 (.ret [6, 7])) .skip)))))))
 (.seq (.s [.mv 41 (.t 0), .call (some 42) 28 [(.t 41)], .as 10 (.t 42)] [41, 42])
 (.seq (.s [.mv 43 (.t 10), .mv 44 (.t 8), .mv 45 (.t 2), .ix 46 7 (.t 43) (.t 44), .fa 47 4 1 (.t 46), .sto 1 (.t 47) (.t 45)] [43, 44, 45, 46, 47])
 (.seq (.s [.mv 48 (.t 10), .as 6 (.t 48), .as 7 (.c (.i .i64 0))] [48])
 (.ret [6, 7])))))))⟩
theorem comp18 : compile Try.prog Try.f18 = some code18 := by kernel_rfl
theorem okf18 : okFn Try.prog 18 = true := by kernel_rfl
-- 19: corebank/corebankref41.Use
def code19 : FCode := ⟨3, [.tmp 6, .tmp 7],
 (.seq (.s [.as 6 (.c (.ow 28 [])), .as 7 (.c (.i .i64 0))] [])
 (.seq (.q [(8, (.op (.call false 30) [(.sl 0), (.sl 1)]))])
 (.seq (.seq (.q [(14, (.op (.bin .lss) [(.sl 8), (.k (.i .i64 0))]))])
 (.cond (.sl 14) (.seq (.s [.as 6 (.c (.ow 28 [])), .as 7 (.c (.i .i64 11))] [])
 (.ret [6, 7])) .skip))
 (.seq (.seq (.q [(20, (.ite (.op (.bin .lss) [(.sl 2), (.k (.i .i64 1))]) (.k (.b true)) (.op (.bin .gtr) [(.sl 2), (.k (.i .i64 73048))])))])
 (.cond (.sl 20) (.seq (.s [.as 6 (.c (.ow 28 [])), .as 7 (.c (.i .i64 1))] [])
 (.ret [6, 7])) .skip))
 (.seq (.seq (.q [(36, (.ite (.op (.bin .lss) [(.sl 2), (.op (.ld 1 false) [(.op (.fa 3 1) [(.op (.ix 7) [(.sl 0), (.sl 8)])])])]) (.k (.b true)) (.op (.bin .lss) [(.sl 2), (.op (.ld 1 false) [(.op (.fa 4 1) [(.op (.ix 7) [(.sl 0), (.sl 8)])])])])))])
 (.cond (.sl 36) (.seq (.s [.as 6 (.c (.ow 28 [])), .as 7 (.c (.i .i64 10))] [])
 (.ret [6, 7])) .skip))
 (.seq (.s [.bsl 37 28 7 [], .mv 38 (.t 0), .app 39 28 7 64 (.t 37) (.t 38), .as 9 (.t 39)] [37, 38, 39])
 (.seq (.s [.mv 40 (.t 9), .mv 41 (.t 8), .mv 42 (.t 2), .ix 43 7 (.t 40) (.t 41), .fa 44 4 1 (.t 43), .sto 1 (.t 44) (.t 42)] [40, 41, 42, 43, 44])
 (.seq (.s [.mv 45 (.t 9), .as 6 (.t 45), .as 7 (.c (.i .i64 0))] [45])
 (.ret [6, 7])))))))))⟩
theorem comp19 : compile Try.prog Try.f19 = some code19 := by kernel_rfl
theorem okf19 : okFn Try.prog 19 = true := by kernel_rfl
-- 20: corebank/mandate.Expired
def code20 : FCode := ⟨2, [.tmp 4],
 (.seq (.s [.box 2 (.t 0), .as 4 (.c (.b false))] [])
 (.seq (.q [(5, (.op (.ld 1 false) [(.op (.fa 4 1) [(.sl 2)])]))])
 (.seq (.seq (.q [(9, (.op (.bin .eql) [(.sl 5), (.k (.i .i64 0))]))])
 (.cond (.sl 9) (.q [(5, (.op (.ld 1 false) [(.op (.fa 3 1) [(.sl 2)])]))]) .skip))
 (.seq (.q [(4, (.op (.call false 31) [(.sl 1), (.sl 5), (.k (.i .i64 1096))]))])
 (.ret [4])))))⟩
theorem comp20 : compile Try.prog Try.f20 = some code20 := by kernel_rfl
theorem okf20 : okFn Try.prog 20 = true := by kernel_rfl
-- 21: corebank/corebankref41.Expired
def code21 : FCode := ⟨2, [.tmp 4],
 (.seq (.s [.box 2 (.t 0), .as 4 (.c (.b false))] [])
 (.seq (.q [(5, (.op (.ld 1 false) [(.op (.fa 4 1) [(.sl 2)])]))])
 (.seq (.seq (.q [(9, (.op (.bin .eql) [(.sl 5), (.k (.i .i64 0))]))])
 (.cond (.sl 9) (.q [(5, (.op (.ld 1 false) [(.op (.fa 3 1) [(.sl 2)])]))]) .skip))
 (.seq (.q [(4, (.ite (.op (.bin .gtr) [(.sl 1), (.sl 5)]) (.op (.bin .gtr) [(.op (.bin .sub) [(.op (.cnv .u64) [(.sl 1)]), (.op (.cnv .u64) [(.sl 5)])]), (.k (.i .u64 1096))]) (.k (.b false))))])
 (.ret [4])))))⟩
theorem comp21 : compile Try.prog Try.f21 = some code21 := by kernel_rfl
theorem okf21 : okFn Try.prog 21 = true := by kernel_rfl
-- 22: corebank/mandate.Allows
def code22 : FCode := ⟨4, [.tmp 8],
 (.seq (.q [(8, (.k (.i .i64 0)))])
 (.seq (.q [(9, (.op (.ext 0) [(.op (.call false 29) [(.sl 0), (.sl 1)])])), (10, (.op (.ext 1) [(.op (.call false 29) [(.sl 0), (.sl 1)])]))])
 (.seq (.seq (.q [(19, (.op (.un .not) [(.sl 10)]))])
 (.cond (.sl 19) (.seq (.q [(8, (.k (.i .i64 11)))])
 (.ret [8])) .skip))
 (.seq (.seq (.s [.mv 20 (.t 0), .mv 21 (.t 9), .ix 22 7 (.t 20) (.t 21), .q 23 (.ld 7 true) [(.t 22)], .alo 11 [(.i .i64 0), (.i .i64 0), (.i .i64 0), (.i .i64 0), (.i .i64 0), (.i .i64 0), (.s [])], .sto 7 (.t 11) (.t 23)] [20, 21, 22, 23])
 (.blk 0 (.seq (.q [(24, (.ite (.ite (.op (.bin .neq) [(.op (.ld 1 false) [(.op (.fa 5 1) [(.sl 11)])]), (.k (.i .i64 0))]) (.op (.bin .leq) [(.op (.ld 1 false) [(.op (.fa 5 1) [(.sl 11)])]), (.sl 3)]) (.k (.b false))) (.k (.b true)) (.op (.bin .gtr) [(.op (.ld 1 false) [(.op (.fa 3 1) [(.sl 11)])]), (.sl 3)])))])
 (.cond (.sl 24) (.seq (.q [(8, (.k (.i .i64 17)))])
 (.ret [8])) (.seq (.q [(40, (.op (.call false 20) [(.op (.ld 7 true) [(.sl 11)]), (.sl 3)]))])
 (.cond (.sl 40) (.seq (.q [(8, (.k (.i .i64 23)))])
 (.ret [8])) (.seq (.q [(44, (.ite (.op (.bin .neq) [(.op (.ld 1 false) [(.op (.fa 2 1) [(.sl 11)])]), (.k (.i .i64 0))]) (.op (.bin .gtr) [(.sl 2), (.op (.ld 1 false) [(.op (.fa 2 1) [(.sl 11)])])]) (.k (.b false))))])
 (.cond (.sl 44) (.seq (.q [(8, (.k (.i .i64 18)))])
 (.ret [8])) .skip))))))))
 (.seq (.q [(8, (.k (.i .i64 0)))])
 (.ret [8]))))))⟩
theorem comp22 : compile Try.prog Try.f22 = some code22 := by kernel_rfl
theorem okf22 : okFn Try.prog 22 = true := by kernel_rfl
-- 23: corebank/corebankref41.Allows
def code23 : FCode := ⟨4, [.tmp 8],
 (.seq (.q [(8, (.k (.i .i64 0)))])
 (.seq (.q [(9, (.op (.call false 30) [(.sl 0), (.sl 1)]))])
 (.seq (.seq (.q [(15, (.op (.bin .lss) [(.sl 9), (.k (.i .i64 0))]))])
 (.cond (.sl 15) (.seq (.q [(8, (.k (.i .i64 11)))])
 (.ret [8])) .skip))
 (.seq (.s [.mv 16 (.t 0), .mv 17 (.t 9), .ix 18 7 (.t 16) (.t 17), .q 19 (.ld 7 true) [(.t 18)], .alo 10 [(.i .i64 0), (.i .i64 0), (.i .i64 0), (.i .i64 0), (.i .i64 0), (.i .i64 0), (.s [])], .sto 7 (.t 10) (.t 19)] [16, 17, 18, 19])
 (.seq (.seq (.q [(34, (.ite (.ite (.op (.bin .neq) [(.op (.ld 1 false) [(.op (.fa 5 1) [(.sl 10)])]), (.k (.i .i64 0))]) (.op (.bin .leq) [(.op (.ld 1 false) [(.op (.fa 5 1) [(.sl 10)])]), (.sl 3)]) (.k (.b false))) (.k (.b true)) (.op (.bin .gtr) [(.op (.ld 1 false) [(.op (.fa 3 1) [(.sl 10)])]), (.sl 3)])))])
 (.cond (.sl 34) (.seq (.q [(8, (.k (.i .i64 17)))])
 (.ret [8])) .skip))
 (.seq (.seq (.q [(37, (.op (.call false 21) [(.op (.ld 7 true) [(.sl 10)]), (.sl 3)]))])
 (.cond (.sl 37) (.seq (.q [(8, (.k (.i .i64 23)))])
 (.ret [8])) .skip))
 (.seq (.seq (.q [(46, (.ite (.op (.bin .neq) [(.op (.ld 1 false) [(.op (.fa 2 1) [(.sl 10)])]), (.k (.i .i64 0))]) (.op (.bin .gtr) [(.sl 2), (.op (.ld 1 false) [(.op (.fa 2 1) [(.sl 10)])])]) (.k (.b false))))])
 (.cond (.sl 46) (.seq (.q [(8, (.k (.i .i64 18)))])
 (.ret [8])) .skip))
 (.seq (.q [(8, (.k (.i .i64 0)))])
 (.ret [8])))))))))⟩
theorem comp23 : compile Try.prog Try.f23 = some code23 := by kernel_rfl
theorem okf23 : okFn Try.prog 23 = true := by kernel_rfl
-- 24: corebank/mandate.accepted
def code24 : FCode := ⟨1, [.tmp 2],
 (.seq (.s [.box 1 (.t 0), .as 2 (.c (.b false))] [])
 (.seq (.s [.mkf 4 (.func 32) 0 [(.t 1)], .as 3 (.t 4)] [4])
 (.seq (.q [(2, (.ite (.ite (.ite (.ite (.ite (.ite (.op (.bin .geq) [(.op (.ld 1 false) [(.op (.fa 0 1) [(.sl 1)])]), (.k (.i .i64 1))]) (.op (.bin .geq) [(.op (.ld 1 false) [(.op (.fa 1 1) [(.sl 1)])]), (.k (.i .i64 1000))]) (.k (.b false))) (.op (.bin .geq) [(.op (.ld 1 false) [(.op (.fa 2 1) [(.sl 1)])]), (.k (.i .i64 0))]) (.k (.b false))) (.op (.call false 34) [(.op (.ld 1 false) [(.op (.fa 2 1) [(.sl 1)])])]) (.k (.b false))) (.op (.call false 33) [(.op (.ld 1 false) [(.op (.fa 3 1) [(.sl 1)])])]) (.k (.b false))) (.op (.callv false) [(.sl 3), (.op (.ld 1 false) [(.op (.fa 4 1) [(.sl 1)])])]) (.k (.b false))) (.op (.callv false) [(.sl 3), (.op (.ld 1 false) [(.op (.fa 5 1) [(.sl 1)])])]) (.k (.b false))))])
 (.ret [2]))))⟩
theorem comp24 : compile Try.prog Try.f24 = some code24 := by kernel_rfl
theorem okf24 : okFn Try.prog 24 = true := by kernel_rfl
-- 25: corebank/mandate.named
def body25_1 : C :=
 (.seq (.q [(26, (.op (.bin .lss) [(.sl 25), (.sl 24)]))])
 (.seq (.cond (.sl 26) .skip (.exit 0 []))
 (.seq (.blk 1 (.seq (.q [(4, (.op (.ld 1 false) [(.op (.ix 1) [(.sl 23), (.sl 25)])]))])
 (.seq (.q [(46, (.ite (.ite (.ite (.op (.bin .lss) [(.sl 4), (.k (.i .u8 97))]) (.k (.b true)) (.op (.bin .gtr) [(.sl 4), (.k (.i .u8 122))])) (.ite (.op (.bin .lss) [(.sl 4), (.k (.i .u8 48))]) (.k (.b true)) (.op (.bin .gtr) [(.sl 4), (.k (.i .u8 57))])) (.k (.b false))) (.op (.bin .neq) [(.sl 4), (.k (.i .u8 95))]) (.k (.b false))))])
 (.cond (.sl 46) (.seq (.q [(2, (.k (.b false)))])
 (.ret [2])) .skip))))
 (.q [(25, (.op (.bin .add) [(.sl 25), (.k (.i .i64 1))]))]))))
def code25 : FCode := ⟨1, [.tmp 2],
 (.seq (.q [(2, (.k (.b false)))])
 (.seq (.seq (.q [(21, (.ite (.ite (.ite (.op (.bin .eql) [(.sl 0), (.k (.s []))]) (.k (.b true)) (.op (.bin .gtr) [(.op .slen [(.sl 0)]), (.k (.i .i64 16))])) (.k (.b true)) (.op (.bin .lss) [(.op .idx [(.sl 0), (.k (.i .i64 0))]), (.k (.i .u8 97))])) (.k (.b true)) (.op (.bin .gtr) [(.op .idx [(.sl 0), (.k (.i .i64 0))]), (.k (.i .u8 122))])))])
 (.cond (.sl 21) (.seq (.q [(2, (.k (.b false)))])
 (.ret [2])) .skip))
 (.seq (.seq (.s [.mv 22 (.t 0), .s2b 23 5 (.t 22), .q 24 .len [(.t 23)], .mv 25 (.c (.i .i64 0))] [22])
 (.blk 0 (.loop [23, 24, 25] body25_1)))
 (.seq (.q [(2, (.k (.b true)))])
 (.ret [2])))))⟩
theorem comp25 : compile Try.prog Try.f25 = some code25 := by kernel_rfl
theorem okf25 : okFn Try.prog 25 = true := by kernel_rfl
-- 26: corebank/corebankref41.good
def code26 : FCode := ⟨1, [.tmp 2],
 (.seq (.s [.box 1 (.t 0), .as 2 (.c (.b false))] [])
 (.seq (.q [(2, (.ite (.ite (.ite (.ite (.ite (.ite (.op (.bin .geq) [(.op (.ld 1 false) [(.op (.fa 0 1) [(.sl 1)])]), (.k (.i .i64 1))]) (.op (.bin .geq) [(.op (.ld 1 false) [(.op (.fa 1 1) [(.sl 1)])]), (.k (.i .i64 1000))]) (.k (.b false))) (.op (.bin .geq) [(.op (.ld 1 false) [(.op (.fa 2 1) [(.sl 1)])]), (.k (.i .i64 0))]) (.k (.b false))) (.op (.call false 35) [(.op (.ld 1 false) [(.op (.fa 2 1) [(.sl 1)])])]) (.k (.b false))) (.op (.call false 36) [(.op (.ld 1 false) [(.op (.fa 3 1) [(.sl 1)])])]) (.k (.b false))) (.op (.call false 37) [(.op (.ld 1 false) [(.op (.fa 4 1) [(.sl 1)])]), (.op (.ld 1 false) [(.op (.fa 3 1) [(.sl 1)])])]) (.k (.b false))) (.op (.call false 37) [(.op (.ld 1 false) [(.op (.fa 5 1) [(.sl 1)])]), (.op (.ld 1 false) [(.op (.fa 3 1) [(.sl 1)])])]) (.k (.b false))))])
 (.ret [2])))⟩
theorem comp26 : compile Try.prog Try.f26 = some code26 := by kernel_rfl
theorem okf26 : okFn Try.prog 26 = true := by kernel_rfl
-- 27: corebank/corebankref05.Name
def body27_1 : C :=
 (.seq (.seq (.q [(25, (.op (.bin .lss) [(.sl 3), (.op .slen [(.sl 0)])]))])
 (.cond (.sl 25) .skip (.exit 0 [])))
 (.seq (.blk 1 (.seq (.q [(55, (.ite (.ite (.ite (.op (.bin .lss) [(.op .idx [(.sl 0), (.sl 3)]), (.k (.i .u8 97))]) (.k (.b true)) (.op (.bin .gtr) [(.op .idx [(.sl 0), (.sl 3)]), (.k (.i .u8 122))])) (.ite (.op (.bin .lss) [(.op .idx [(.sl 0), (.sl 3)]), (.k (.i .u8 48))]) (.k (.b true)) (.op (.bin .gtr) [(.op .idx [(.sl 0), (.sl 3)]), (.k (.i .u8 57))])) (.k (.b false))) (.op (.bin .neq) [(.op .idx [(.sl 0), (.sl 3)]), (.k (.i .u8 95))]) (.k (.b false))))])
 (.cond (.sl 55) (.seq (.q [(2, (.k (.b false)))])
 (.ret [2])) .skip)))
 (.q [(3, (.op (.bin .add) [(.sl 3), (.k (.i .i64 1))]))])))
def code27 : FCode := ⟨1, [.tmp 2],
 (.seq (.q [(2, (.k (.b false)))])
 (.seq (.seq (.q [(21, (.ite (.ite (.ite (.op (.bin .lss) [(.op .slen [(.sl 0)]), (.k (.i .i64 1))]) (.k (.b true)) (.op (.bin .gtr) [(.op .slen [(.sl 0)]), (.k (.i .i64 16))])) (.k (.b true)) (.op (.bin .lss) [(.op .idx [(.sl 0), (.k (.i .i64 0))]), (.k (.i .u8 97))])) (.k (.b true)) (.op (.bin .gtr) [(.op .idx [(.sl 0), (.k (.i .i64 0))]), (.k (.i .u8 122))])))])
 (.cond (.sl 21) (.seq (.q [(2, (.k (.b false)))])
 (.ret [2])) .skip))
 (.seq (.seq (.q [(3, (.k (.i .i64 0)))])
 (.blk 0 (.loop [0, 3] body27_1)))
 (.seq (.q [(2, (.k (.b true)))])
 (.ret [2])))))⟩
theorem comp27 : compile Try.prog Try.f27 = some code27 := by kernel_rfl
theorem okf27 : okFn Try.prog 27 = true := by kernel_rfl
-- 28: slices.Clone[[]corebank/api.Mandate,corebank/api.Mandate] NOT COMPILED
-- 29: corebank/mandate.find
def code29 : FCode := ⟨2, [.tmp 4, .tmp 5],
 (.seq (.s [.box 3 (.t 1), .as 4 (.c (.i .i64 0)), .as 5 (.c (.b false))] [])
 (.seq (.s [.mv 6 (.t 0), .mkf 7 (.func 39) 0 [(.t 3)], .call (some 8) 38 [(.t 6), (.t 7)], .ext 9 0 8, .ext 10 1 8, .as 4 (.t 9), .as 5 (.t 10)] [6, 7, 8, 9, 10])
 (.ret [4, 5])))⟩
theorem comp29 : compile Try.prog Try.f29 = some code29 := by kernel_rfl
theorem okf29 : okFn Try.prog 29 = true := by kernel_rfl
-- 30: corebank/corebankref41.Place
def body30_1 : C :=
 (.seq (.seq (.q [(9, (.op (.bin .lss) [(.sl 5), (.op .len [(.sl 0)])]))])
 (.cond (.sl 9) .skip (.exit 0 [])))
 (.seq (.blk 1 (.seq (.q [(18, (.op (.bin .eql) [(.op (.ld 1 false) [(.op (.fa 0 1) [(.op (.ix 7) [(.sl 0), (.sl 5)])])]), (.sl 1)]))])
 (.cond (.sl 18) (.seq (.q [(4, (.sl 5))])
 (.ret [4])) .skip)))
 (.q [(5, (.op (.bin .add) [(.sl 5), (.k (.i .i64 1))]))])))
def code30 : FCode := ⟨2, [.tmp 4],
 (.seq (.q [(4, (.k (.i .i64 0)))])
 (.seq (.seq (.q [(5, (.k (.i .i64 0)))])
 (.blk 0 (.loop [0, 1, 5] body30_1)))
 (.seq (.q [(4, (.k (.i .i64 (-1))))])
 (.ret [4]))))⟩
theorem comp30 : compile Try.prog Try.f30 = some code30 := by kernel_rfl
theorem okf30 : okFn Try.prog 30 = true := by kernel_rfl
-- 31: corebank/mandate.more
def code31 : FCode := ⟨3, [.tmp 6],
 (.seq (.q [(6, (.k (.b false)))])
 (.seq (.q [(6, (.ite (.op (.bin .gtr) [(.sl 0), (.sl 1)]) (.op (.bin .gtr) [(.op (.bin .sub) [(.op (.cnv .u64) [(.sl 0)]), (.op (.cnv .u64) [(.sl 1)])]), (.op (.cnv .u64) [(.sl 2)])]) (.k (.b false))))])
 (.ret [6])))⟩
theorem comp31 : compile Try.prog Try.f31 = some code31 := by kernel_rfl
theorem okf31 : okFn Try.prog 31 = true := by kernel_rfl
-- 32: corebank/mandate.accepted$1
def code32 : FCode := ⟨2, [.tmp 3],
 (.seq (.q [(3, (.k (.b false)))])
 (.seq (.q [(3, (.ite (.op (.bin .eql) [(.sl 0), (.k (.i .i64 0))]) (.k (.b true)) (.ite (.op (.call false 33) [(.sl 0)]) (.op (.bin .geq) [(.sl 0), (.op (.ld 1 false) [(.op (.fa 3 1) [(.sl 1)])])]) (.k (.b false)))))])
 (.ret [3])))⟩
theorem comp32 : compile Try.prog Try.f32 = some code32 := by kernel_rfl
theorem okf32 : okFn Try.prog 32 = true := by kernel_rfl
-- 33: corebank/date.Valid
def code33 : FCode := ⟨1, [.tmp 2],
 (.seq (.q [(2, (.k (.b false)))])
 (.seq (.q [(2, (.ite (.op (.bin .geq) [(.sl 0), (.k (.i .i64 0))]) (.op (.bin .leq) [(.sl 0), (.k (.i .i64 73048))]) (.k (.b false))))])
 (.ret [2])))⟩
theorem comp33 : compile Try.prog Try.f33 = some code33 := by kernel_rfl
theorem okf33 : okFn Try.prog 33 = true := by kernel_rfl
-- 34: corebank/money.Valid
def code34 : FCode := ⟨1, [.tmp 2],
 (.seq (.q [(2, (.k (.b false)))])
 (.seq (.q [(2, (.ite (.op (.bin .geq) [(.sl 0), (.k (.i .i64 (-1000000000000)))]) (.op (.bin .leq) [(.sl 0), (.k (.i .i64 1000000000000))]) (.k (.b false))))])
 (.ret [2])))⟩
theorem comp34 : compile Try.prog Try.f34 = some code34 := by kernel_rfl
theorem okf34 : okFn Try.prog 34 = true := by kernel_rfl
-- 35: corebank/corebankref03.Valid
def code35 : FCode := ⟨1, [.tmp 2],
 (.seq (.q [(2, (.k (.b false)))])
 (.seq (.q [(2, (.ite (.op (.bin .geq) [(.sl 0), (.k (.i .i64 (-1000000000000)))]) (.op (.bin .leq) [(.sl 0), (.k (.i .i64 1000000000000))]) (.k (.b false))))])
 (.ret [2])))⟩
theorem comp35 : compile Try.prog Try.f35 = some code35 := by kernel_rfl
theorem okf35 : okFn Try.prog 35 = true := by kernel_rfl
-- 36: corebank/corebankref04.Valid
def code36 : FCode := ⟨1, [.tmp 2],
 (.seq (.q [(2, (.k (.b false)))])
 (.seq (.q [(2, (.ite (.op (.bin .geq) [(.sl 0), (.k (.i .i64 0))]) (.op (.bin .leq) [(.sl 0), (.k (.i .i64 73048))]) (.k (.b false))))])
 (.ret [2])))⟩
theorem comp36 : compile Try.prog Try.f36 = some code36 := by kernel_rfl
theorem okf36 : okFn Try.prog 36 = true := by kernel_rfl
-- 37: corebank/corebankref41.later
def code37 : FCode := ⟨2, [.tmp 4],
 (.seq (.q [(4, (.k (.b false)))])
 (.seq (.q [(4, (.ite (.op (.bin .eql) [(.sl 0), (.k (.i .i64 0))]) (.k (.b true)) (.ite (.op (.call false 36) [(.sl 0)]) (.op (.bin .geq) [(.sl 0), (.sl 1)]) (.k (.b false)))))])
 (.ret [4])))⟩
theorem comp37 : compile Try.prog Try.f37 = some code37 := by kernel_rfl
theorem okf37 : okFn Try.prog 37 = true := by kernel_rfl
-- 38: corebank/mandate.first[corebank/api.Mandate]
def body38_1 : C :=
 (.seq (.q [(11, (.op (.bin .lss) [(.sl 10), (.sl 9)]))])
 (.seq (.cond (.sl 11) .skip (.exit 0 []))
 (.seq (.blk 1 (.seq (.s [.mv 12 (.t 10), .ix 13 7 (.t 8) (.t 10), .q 14 (.ld 7 true) [(.t 13)], .alo 7 [(.i .i64 0), (.i .i64 0), (.i .i64 0), (.i .i64 0), (.i .i64 0), (.i .i64 0), (.s [])], .as 6 (.t 12), .sto 7 (.t 7) (.t 14)] [12, 13, 14])
 (.seq (.q [(17, (.op (.callv false) [(.sl 1), (.op (.ld 7 true) [(.sl 7)])]))])
 (.cond (.sl 17) (.seq (.q [(4, (.sl 6)), (5, (.k (.b true)))])
 (.ret [4, 5])) .skip))))
 (.q [(10, (.op (.bin .add) [(.sl 10), (.k (.i .i64 1))]))]))))
def code38 : FCode := ⟨2, [.tmp 4, .tmp 5],
 (.seq (.q [(4, (.k (.i .i64 0))), (5, (.k (.b false)))])
 (.seq (.seq (.s [.mv 8 (.t 0), .q 9 .len [(.t 8)], .mv 10 (.c (.i .i64 0))] [])
 (.blk 0 (.loop [1, 8, 9, 10] body38_1)))
 (.seq (.q [(4, (.k (.i .i64 0))), (5, (.k (.b false)))])
 (.ret [4, 5]))))⟩
theorem comp38 : compile Try.prog Try.f38 = some code38 := by kernel_rfl
theorem okf38 : okFn Try.prog 38 = true := by kernel_rfl
-- 39: corebank/mandate.find$1
def code39 : FCode := ⟨2, [.tmp 3],
 (.seq (.s [.box 2 (.t 0), .as 3 (.c (.b false))] [])
 (.seq (.q [(3, (.op (.bin .eql) [(.op (.ld 1 false) [(.op (.fa 0 1) [(.sl 2)])]), (.op (.ld 1 false) [(.sl 1)])]))])
 (.ret [3])))⟩
theorem comp39 : compile Try.prog Try.f39 = some code39 := by kernel_rfl
theorem okf39 : okFn Try.prog 39 = true := by kernel_rfl
/-- All of them. -/
def codes : List (Nat × FCode) := [(2, code2), (3, code3), (4, code4), (5, code5), (6, code6), (7, code7), (8, code8), (9, code9), (10, code10), (11, code11), (12, code12), (13, code13), (14, code14), (15, code15), (16, code16), (17, code17), (18, code18), (19, code19), (20, code20), (21, code21), (22, code22), (23, code23), (24, code24), (25, code25), (26, code26), (27, code27), (29, code29), (30, code30), (31, code31), (32, code32), (33, code33), (34, code34), (35, code35), (36, code36), (37, code37), (38, code38), (39, code39)]
def tab : Nat → Option FCode := tabOf codes
theorem codes_ok : ∀ p ∈ codes, ∃ fn, Try.prog.funcs[p.1]? = some fn ∧ compile Try.prog fn = some p.2 ∧ okFn Try.prog p.1 = true := by
  unfold codes
  simp only [List.forall_mem_cons]
  exact ⟨⟨_, Try.func2, comp2, okf2⟩, ⟨_, Try.func3, comp3, okf3⟩, ⟨_, Try.func4, comp4, okf4⟩, ⟨_, Try.func5, comp5, okf5⟩, ⟨_, Try.func6, comp6, okf6⟩, ⟨_, Try.func7, comp7, okf7⟩, ⟨_, Try.func8, comp8, okf8⟩, ⟨_, Try.func9, comp9, okf9⟩, ⟨_, Try.func10, comp10, okf10⟩, ⟨_, Try.func11, comp11, okf11⟩, ⟨_, Try.func12, comp12, okf12⟩, ⟨_, Try.func13, comp13, okf13⟩, ⟨_, Try.func14, comp14, okf14⟩, ⟨_, Try.func15, comp15, okf15⟩, ⟨_, Try.func16, comp16, okf16⟩, ⟨_, Try.func17, comp17, okf17⟩, ⟨_, Try.func18, comp18, okf18⟩, ⟨_, Try.func19, comp19, okf19⟩, ⟨_, Try.func20, comp20, okf20⟩, ⟨_, Try.func21, comp21, okf21⟩, ⟨_, Try.func22, comp22, okf22⟩, ⟨_, Try.func23, comp23, okf23⟩, ⟨_, Try.func24, comp24, okf24⟩, ⟨_, Try.func25, comp25, okf25⟩, ⟨_, Try.func26, comp26, okf26⟩, ⟨_, Try.func27, comp27, okf27⟩, ⟨_, Try.func29, comp29, okf29⟩, ⟨_, Try.func30, comp30, okf30⟩, ⟨_, Try.func31, comp31, okf31⟩, ⟨_, Try.func32, comp32, okf32⟩, ⟨_, Try.func33, comp33, okf33⟩, ⟨_, Try.func34, comp34, okf34⟩, ⟨_, Try.func35, comp35, okf35⟩, ⟨_, Try.func36, comp36, okf36⟩, ⟨_, Try.func37, comp37, okf37⟩, ⟨_, Try.func38, comp38, okf38⟩, ⟨_, Try.func39, comp39, okf39⟩, fun _ h => by cases h⟩
end Go.Proofs.Ytflcddjpnbefhaa
