/-
  The code of the functions that the laws reach, as the evaluator runs it: printed by a program of ours off the translation, and held against it by the kernel.
-/
import Derived.Test.YtmhodpnjhkokoaaProg
import Derived.Test.YtmhodpnjhkokoaaVmP
import Derived.KernelRfl
namespace Go.Proofs.Ytmhodpnjhkokoaa
open Go.VM
/-- The library's functions that write into a slice of the call's own. -/
instance glob : Glob := ⟨[], [(62, ⟨3, false, false, sortRun⟩), (63, ⟨3, true, false, compRun⟩), (69, ⟨3, true, true, growRun⟩)]⟩
-- 2: gosem.cut.init
def code2 : FCode := ⟨0, [],
 (.s [.call (some 0) 1 []] [0])⟩
theorem comp2 : compile Try.prog Try.f2 = some code2 := by kernel_rfl
theorem okf2 : okFn Try.prog 2 = true := by kernel_rfl
-- 3: corebank/corebanklaw05.CalendarChecks
def code3 : FCode := ⟨1, [.tmp 2],
 (.seq (.s [.box 1 (.t 0), .as 2 (.c (.b false))] [])
 (.seq (.seq (.q [(18, (.ite (.ite (.op (.bin .gtr) [(.op .slen [(.op (.ld 1 false) [(.op (.fa 0 1) [(.sl 1)])])]), (.k (.i .i64 100))]) (.k (.b true)) (.op (.bin .gtr) [(.op .len [(.op (.ld 1 false) [(.op (.fa 1 1) [(.sl 1)])])]), (.k (.i .i64 100))])) (.k (.b true)) (.op (.bin .gtr) [(.op .len [(.op (.ld 1 false) [(.op (.fa 2 1) [(.sl 1)])])]), (.k (.i .i64 500))])))])
 (.cond (.sl 18) (.seq (.q [(2, (.op (.call false 11) []))])
 (.ret [2])) .skip))
 (.seq (.q [(2, (.ite (.op (.bin .eql) [(.op (.call true 12) [(.op (.ld 3 true) [(.sl 1)])]), (.op (.call true 13) [(.op (.ld 3 true) [(.sl 1)])])]) (.op (.call true 11) []) (.k (.b false))))])
 (.ret [2]))))⟩
theorem comp3 : compile Try.prog Try.f3 = some code3 := by kernel_rfl
theorem okf3 : okFn Try.prog 3 = true := by kernel_rfl
-- 4: corebank/corebanklaw05.CalendarOpens
def code4 : FCode := ⟨2, [.tmp 4],
 (.seq (.s [.box 2 (.t 0), .as 4 (.c (.b false))] [])
 (.seq (.seq (.q [(15, (.op (.un .not) [(.op (.call false 14) [(.op (.ld 3 true) [(.sl 2)])])]))])
 (.cond (.sl 15) (.seq (.q [(4, (.op (.call false 11) []))])
 (.ret [4])) .skip))
 (.seq (.q [(5, (.op (.ext 0) [(.op (.call false 15) [(.op (.ld 3 true) [(.sl 2)]), (.sl 1)])])), (6, (.op (.ext 1) [(.op (.call false 15) [(.op (.ld 3 true) [(.sl 2)]), (.sl 1)])]))])
 (.seq (.q [(7, (.op (.ext 0) [(.op (.call false 16) [(.op (.ld 3 true) [(.sl 2)]), (.sl 1)])])), (8, (.op (.ext 1) [(.op (.call false 16) [(.op (.ld 3 true) [(.sl 2)]), (.sl 1)])]))])
 (.seq (.q [(9, (.op (.ext 0) [(.op (.call false 17) [(.op (.ld 3 true) [(.sl 2)]), (.sl 1)])])), (10, (.op (.ext 1) [(.op (.call false 17) [(.op (.ld 3 true) [(.sl 2)]), (.sl 1)])]))])
 (.seq (.q [(11, (.op (.ext 0) [(.op (.call false 18) [(.op (.ld 3 true) [(.sl 2)]), (.sl 1)])])), (12, (.op (.ext 1) [(.op (.call false 18) [(.op (.ld 3 true) [(.sl 2)]), (.sl 1)])]))])
 (.seq (.q [(4, (.ite (.ite (.ite (.ite (.ite (.op (.binb .eql) [(.op (.call true 19) [(.op (.ld 3 true) [(.sl 2)]), (.sl 1)]), (.op (.call true 20) [(.op (.ld 3 true) [(.sl 2)]), (.sl 1)])]) (.op (.bin .eql) [(.sl 5), (.sl 7)]) (.k (.b false))) (.op (.bin .eql) [(.sl 6), (.sl 8)]) (.k (.b false))) (.op (.bin .eql) [(.sl 9), (.sl 11)]) (.k (.b false))) (.op (.bin .eql) [(.sl 10), (.sl 12)]) (.k (.b false))) (.op (.call true 11) []) (.k (.b false))))])
 (.ret [4]))))))))⟩
theorem comp4 : compile Try.prog Try.f4 = some code4 := by kernel_rfl
theorem okf4 : okFn Try.prog 4 = true := by kernel_rfl
-- 5: corebank/corebanklaw05.CalendarAdjusts
def code5 : FCode := ⟨3, [.tmp 6],
 (.seq (.s [.box 3 (.t 0), .as 6 (.c (.b false))] [])
 (.seq (.seq (.q [(13, (.op (.un .not) [(.op (.call false 14) [(.op (.ld 3 true) [(.sl 3)])])]))])
 (.cond (.sl 13) (.seq (.q [(6, (.op (.call false 11) []))])
 (.ret [6])) .skip))
 (.seq (.q [(7, (.op (.ext 0) [(.op (.call false 21) [(.op (.ld 3 true) [(.sl 3)]), (.sl 1), (.sl 2)])])), (8, (.op (.ext 1) [(.op (.call false 21) [(.op (.ld 3 true) [(.sl 3)]), (.sl 1), (.sl 2)])]))])
 (.seq (.q [(9, (.op (.ext 0) [(.op (.call false 22) [(.op (.ld 3 true) [(.sl 3)]), (.sl 1), (.sl 2)])])), (10, (.op (.ext 1) [(.op (.call false 22) [(.op (.ld 3 true) [(.sl 3)]), (.sl 1), (.sl 2)])]))])
 (.seq (.q [(6, (.ite (.ite (.op (.bin .eql) [(.sl 7), (.sl 9)]) (.op (.bin .eql) [(.sl 8), (.sl 10)]) (.k (.b false))) (.op (.call false 11) []) (.k (.b false))))])
 (.ret [6]))))))⟩
theorem comp5 : compile Try.prog Try.f5 = some code5 := by kernel_rfl
theorem okf5 : okFn Try.prog 5 = true := by kernel_rfl
-- 6: corebank/corebanklaw05.CalendarAdds
def code6 : FCode := ⟨3, [.tmp 6],
 (.seq (.s [.box 3 (.t 0), .as 6 (.c (.b false))] [])
 (.seq (.seq (.q [(13, (.op (.un .not) [(.op (.call false 14) [(.op (.ld 3 true) [(.sl 3)])])]))])
 (.cond (.sl 13) (.seq (.q [(6, (.op (.call false 11) []))])
 (.ret [6])) .skip))
 (.seq (.q [(7, (.op (.ext 0) [(.op (.call false 23) [(.op (.ld 3 true) [(.sl 3)]), (.sl 1), (.sl 2)])])), (8, (.op (.ext 1) [(.op (.call false 23) [(.op (.ld 3 true) [(.sl 3)]), (.sl 1), (.sl 2)])]))])
 (.seq (.q [(9, (.op (.ext 0) [(.op (.call false 24) [(.op (.ld 3 true) [(.sl 3)]), (.sl 1), (.sl 2)])])), (10, (.op (.ext 1) [(.op (.call false 24) [(.op (.ld 3 true) [(.sl 3)]), (.sl 1), (.sl 2)])]))])
 (.seq (.q [(6, (.ite (.ite (.op (.bin .eql) [(.sl 7), (.sl 9)]) (.op (.bin .eql) [(.sl 8), (.sl 10)]) (.k (.b false))) (.op (.call false 11) []) (.k (.b false))))])
 (.ret [6]))))))⟩
theorem comp6 : compile Try.prog Try.f6 = some code6 := by kernel_rfl
theorem okf6 : okFn Try.prog 6 = true := by kernel_rfl
-- 7: corebank/corebanklaw05.CalendarTallies
def code7 : FCode := ⟨2, [.tmp 4],
 (.seq (.s [.box 2 (.t 0), .box 3 (.t 1), .as 4 (.c (.b false))] [])
 (.seq (.seq (.q [(8, (.op (.un .not) [(.op (.call false 14) [(.op (.ld 3 true) [(.sl 2)])])]))])
 (.cond (.sl 8) (.seq (.q [(4, (.op (.call false 11) []))])
 (.ret [4])) .skip))
 (.seq (.q [(5, (.op (.call false 25) [(.op (.ld 3 true) [(.sl 2)]), (.op (.ld 1 false) [(.op (.fa 0 1) [(.sl 3)])]), (.op (.ld 1 false) [(.op (.fa 2 1) [(.sl 3)])])]))])
 (.seq (.seq (.q [(23, (.op (.bin .neq) [(.sl 5), (.op (.call false 26) [(.op (.ld 3 true) [(.sl 2)]), (.op (.ld 1 false) [(.op (.fa 0 1) [(.sl 3)])]), (.op (.ld 1 false) [(.op (.fa 2 1) [(.sl 3)])])])]))])
 (.cond (.sl 23) (.seq (.q [(4, (.k (.b false)))])
 (.ret [4])) .skip))
 (.seq (.q [(4, (.ite (.ite (.ite (.op (.bin .gtr) [(.op (.ld 1 false) [(.op (.fa 0 1) [(.sl 3)])]), (.op (.ld 1 false) [(.op (.fa 1 1) [(.sl 3)])])]) (.k (.b true)) (.op (.bin .gtr) [(.op (.ld 1 false) [(.op (.fa 1 1) [(.sl 3)])]), (.op (.ld 1 false) [(.op (.fa 2 1) [(.sl 3)])])])) (.k (.b true)) (.op (.bin .eql) [(.op (.bin .add) [(.op (.call true 25) [(.op (.ld 3 true) [(.sl 2)]), (.op (.ld 1 false) [(.op (.fa 0 1) [(.sl 3)])]), (.op (.ld 1 false) [(.op (.fa 1 1) [(.sl 3)])])]), (.op (.call true 25) [(.op (.ld 3 true) [(.sl 2)]), (.op (.ld 1 false) [(.op (.fa 1 1) [(.sl 3)])]), (.op (.ld 1 false) [(.op (.fa 2 1) [(.sl 3)])])])]), (.sl 5)])) (.op (.call true 11) []) (.k (.b false))))])
 (.ret [4]))))))⟩
theorem comp7 : compile Try.prog Try.f7 = some code7 := by kernel_rfl
theorem okf7 : okFn Try.prog 7 = true := by kernel_rfl
-- 8: corebank/corebanklaw05.CalendarCounts
def code8 : FCode := ⟨3, [.tmp 6],
 (.seq (.s [.box 3 (.t 0), .as 6 (.c (.b false))] [])
 (.seq (.seq (.q [(11, (.op (.un .not) [(.op (.call false 14) [(.op (.ld 3 true) [(.sl 3)])])]))])
 (.cond (.sl 11) (.seq (.q [(6, (.op (.call false 11) []))])
 (.ret [6])) .skip))
 (.seq (.q [(7, (.op (.ext 0) [(.op (.call false 23) [(.op (.ld 3 true) [(.sl 3)]), (.sl 1), (.sl 2)])])), (8, (.op (.ext 1) [(.op (.call false 23) [(.op (.ld 3 true) [(.sl 3)]), (.sl 1), (.sl 2)])]))])
 (.seq (.seq (.q [(30, (.ite (.ite (.op (.un .not) [(.op (.call false 27) [(.sl 1)])]) (.k (.b true)) (.op (.bin .lss) [(.sl 2), (.k (.i .i64 1))])) (.k (.b true)) (.op (.bin .gtr) [(.sl 2), (.k (.i .i64 1000))])))])
 (.cond (.sl 30) (.seq (.q [(6, (.ite (.ite (.op (.bin .eql) [(.sl 7), (.k (.i .i64 0))]) (.op (.bin .eql) [(.sl 8), (.k (.i .i64 1))]) (.k (.b false))) (.op (.call false 11) []) (.k (.b false))))])
 (.ret [6])) .skip))
 (.seq (.seq (.q [(41, (.op (.bin .neq) [(.sl 8), (.k (.i .i64 0))]))])
 (.cond (.sl 41) (.seq (.q [(6, (.ite (.ite (.ite (.op (.bin .eql) [(.sl 7), (.k (.i .i64 0))]) (.op (.bin .eql) [(.sl 8), (.k (.i .i64 11))]) (.k (.b false))) (.op (.bin .lss) [(.op (.call false 25) [(.op (.ld 3 true) [(.sl 3)]), (.op (.bin .add) [(.sl 1), (.k (.i .i64 1))]), (.k (.i .i64 73049))]), (.sl 2)]) (.k (.b false))) (.op (.call false 11) []) (.k (.b false))))])
 (.ret [6])) .skip))
 (.seq (.q [(6, (.ite (.ite (.ite (.op (.bin .gtr) [(.sl 7), (.sl 1)]) (.op (.call false 19) [(.op (.ld 3 true) [(.sl 3)]), (.sl 7)]) (.k (.b false))) (.op (.bin .eql) [(.op (.call false 25) [(.op (.ld 3 true) [(.sl 3)]), (.op (.bin .add) [(.sl 1), (.k (.i .i64 1))]), (.sl 7)]), (.op (.bin .sub) [(.sl 2), (.k (.i .i64 1))])]) (.k (.b false))) (.op (.call false 11) []) (.k (.b false))))])
 (.ret [6])))))))⟩
theorem comp8 : compile Try.prog Try.f8 = some code8 := by kernel_rfl
theorem okf8 : okFn Try.prog 8 = true := by kernel_rfl
-- 9: corebank/corebanklaw05.CalendarJoins
def code9 : FCode := ⟨3, [.tmp 6],
 (.seq (.s [.box 3 (.t 0), .box 4 (.t 1), .as 6 (.c (.b false))] [])
 (.seq (.seq (.q [(16, (.ite (.op (.un .not) [(.op (.call false 14) [(.op (.ld 3 true) [(.sl 3)])])]) (.k (.b true)) (.op (.un .not) [(.op (.call false 14) [(.op (.ld 3 true) [(.sl 4)])])])))])
 (.cond (.sl 16) (.seq (.q [(6, (.op (.call false 11) []))])
 (.ret [6])) .skip))
 (.seq (.s [.q 18 (.ld 3 true) [(.t 3)], .q 19 (.ld 3 true) [(.t 4)], .call (some 20) 28 [(.t 18), (.t 19)], .alo 7 [(.s []), (.l []), (.l [])], .sto 3 (.t 7) (.t 20)] [18, 19, 20])
 (.seq (.seq (.q [(40, (.ite (.op (.un .not) [(.op (.call false 29) [(.op (.ld 3 true) [(.sl 7)]), (.op (.call false 30) [(.op (.ld 3 true) [(.sl 3)]), (.op (.ld 3 true) [(.sl 4)])])])]) (.k (.b true)) (.op (.binb .neq) [(.op (.call false 19) [(.op (.ld 3 true) [(.sl 7)]), (.sl 2)]), (.ite (.op (.call false 19) [(.op (.ld 3 true) [(.sl 3)]), (.sl 2)]) (.op (.call false 19) [(.op (.ld 3 true) [(.sl 4)]), (.sl 2)]) (.k (.b false)))])))])
 (.cond (.sl 40) (.seq (.q [(6, (.k (.b false)))])
 (.ret [6])) .skip))
 (.seq (.q [(8, (.ite (.ite (.op (.bin .eql) [(.op (.call false 12) [(.op (.ld 3 true) [(.sl 3)])]), (.k (.i .i64 0))]) (.op (.bin .eql) [(.op (.call false 12) [(.op (.ld 3 true) [(.sl 4)])]), (.k (.i .i64 0))]) (.k (.b false))) (.op (.bin .lss) [(.op .len [(.op (.ld 1 false) [(.op (.fa 1 1) [(.sl 7)])])]), (.k (.i .i64 7))]) (.k (.b false))))])
 (.seq (.q [(6, (.ite (.ite (.op (.un .not) [(.sl 8)]) (.k (.b true)) (.op (.bin .eql) [(.op (.call false 12) [(.op (.ld 3 true) [(.sl 7)])]), (.k (.i .i64 0))])) (.op (.call false 11) []) (.k (.b false))))])
 (.ret [6])))))))⟩
theorem comp9 : compile Try.prog Try.f9 = some code9 := by kernel_rfl
theorem okf9 : okFn Try.prog 9 = true := by kernel_rfl
-- 10: corebank/corebanklaw05.CalendarFinds
def code10 : FCode := ⟨2, [.tmp 4],
 (.seq (.q [(4, (.k (.b false)))])
 (.seq (.seq (.q [(16, (.ite (.op (.bin .gtr) [(.op .len [(.sl 0)]), (.k (.i .i64 30))]) (.k (.b true)) (.op (.bin .gtr) [(.op .slen [(.sl 1)]), (.k (.i .i64 100))])))])
 (.cond (.sl 16) (.seq (.q [(4, (.op (.call false 11) []))])
 (.ret [4])) .skip))
 (.seq (.s [.mv 19 (.t 0), .mv 20 (.t 1), .call (some 21) 31 [(.t 19), (.t 20)], .mv 18 (.t 21), .ext 22 0 18, .ext 23 1 18, .alo 5 [(.s []), (.l []), (.l [])], .sto 3 (.t 5) (.t 22), .as 6 (.t 23)] [19, 20, 21, 18, 22, 23])
 (.seq (.s [.mv 25 (.t 0), .mv 26 (.t 1), .call (some 27) 32 [(.t 25), (.t 26)], .mv 24 (.t 27), .ext 28 0 24, .ext 29 1 24, .alo 7 [(.s []), (.l []), (.l [])], .sto 3 (.t 7) (.t 28), .as 8 (.t 29)] [25, 26, 27, 24, 28, 29])
 (.seq (.q [(4, (.ite (.ite (.op (.call false 29) [(.op (.ld 3 true) [(.sl 5)]), (.op (.ld 3 true) [(.sl 7)])]) (.op (.binb .eql) [(.sl 6), (.sl 8)]) (.k (.b false))) (.op (.call false 11) []) (.k (.b false))))])
 (.ret [4]))))))⟩
theorem comp10 : compile Try.prog Try.f10 = some code10 := by kernel_rfl
theorem okf10 : okFn Try.prog 10 = true := by kernel_rfl
-- 11: corebank/corebanklaw05.live
def code11 : FCode := ⟨0, [.tmp 0],
 (.seq (.q [(0, (.k (.b false)))])
 (.seq (.s [.bsl 11 3 1 [(.c (.i .i64 5)), (.c (.i .i64 6))], .bld 12 [(.s []), (.l []), (.l [])] [(0, 1), (1, 1)] [(.c (.s [99])), (.t 11)], .alo 1 [(.s []), (.l []), (.l [])], .sto 3 (.t 1) (.t 12)] [11, 12])
 (.seq (.q [(2, (.op (.ext 0) [(.op (.call false 15) [(.op (.ld 3 true) [(.sl 1)]), (.k (.i .i64 0))])])), (3, (.op (.ext 1) [(.op (.call false 15) [(.op (.ld 3 true) [(.sl 1)]), (.k (.i .i64 0))])]))])
 (.seq (.s [.q 19 (.ld 3 true) [(.t 1)], .call (some 20) 17 [(.t 19), (.c (.i .i64 0))], .mv 18 (.t 20), .ext 21 0 18, .ext 22 1 18, .as 4 (.t 21), .as 5 (.t 22)] [19, 20, 18, 21, 22, 4])
 (.seq (.q [(6, (.op (.ext 0) [(.op (.call false 23) [(.op (.ld 3 true) [(.sl 1)]), (.k (.i .i64 0)), (.k (.i .i64 5))])])), (7, (.op (.ext 1) [(.op (.call false 23) [(.op (.ld 3 true) [(.sl 1)]), (.k (.i .i64 0)), (.k (.i .i64 5))])]))])
 (.seq (.q [(8, (.op (.ext 0) [(.op (.call false 21) [(.op (.ld 3 true) [(.sl 1)]), (.k (.i .i64 119)), (.k (.i .i64 2))])])), (9, (.op (.ext 1) [(.op (.call false 21) [(.op (.ld 3 true) [(.sl 1)]), (.k (.i .i64 119)), (.k (.i .i64 2))])]))])
 (.seq (.s [.q 33 (.ld 3 true) [(.t 1)], .bsl 34 3 1 [(.c (.i .i64 4)), (.c (.i .i64 5))], .bld 35 [(.s []), (.l []), (.l [])] [(1, 1)] [(.t 34)], .call (some 36) 28 [(.t 33), (.t 35)], .alo 10 [(.s []), (.l []), (.l [])], .sto 3 (.t 10) (.t 36)] [33, 34, 35, 36])
 (.seq (.q [(0, (.ite (.ite (.ite (.ite (.ite (.ite (.ite (.ite (.ite (.ite (.op (.bin .eql) [(.sl 2), (.k (.i .i64 2))]) (.op (.bin .eql) [(.sl 3), (.k (.i .i64 0))]) (.k (.b false))) (.op (.bin .eql) [(.sl 5), (.k (.i .i64 11))]) (.k (.b false))) (.op (.bin .eql) [(.sl 6), (.k (.i .i64 6))]) (.k (.b false))) (.op (.bin .eql) [(.sl 7), (.k (.i .i64 0))]) (.k (.b false))) (.op (.bin .eql) [(.sl 8), (.k (.i .i64 118))]) (.k (.b false))) (.op (.bin .eql) [(.sl 9), (.k (.i .i64 0))]) (.k (.b false))) (.op (.bin .eql) [(.op (.call false 25) [(.op (.ld 3 true) [(.sl 1)]), (.k (.i .i64 0)), (.k (.i .i64 9))]), (.k (.i .i64 5))]) (.k (.b false))) (.op (.bin .eql) [(.op (.call false 12) [(.op (.ld 3 true) [(.sl 1)])]), (.k (.i .i64 0))]) (.k (.b false))) (.op (.call false 19) [(.op (.ld 3 true) [(.sl 1)]), (.k (.i .i64 2))]) (.k (.b false))) (.op (.call false 29) [(.op (.ld 3 true) [(.sl 10)]), (.op (.bld [(.s []), (.l []), (.l [])] [(0, 1), (1, 1)]) [(.k (.s [99])), (.op (.bsl 1) [(.k (.i .i64 4)), (.k (.i .i64 5)), (.k (.i .i64 6))])])]) (.k (.b false))))])
 (.ret [0])))))))))⟩
theorem comp11 : compile Try.prog Try.f11 = some code11 := by kernel_rfl
theorem okf11 : okFn Try.prog 11 = true := by kernel_rfl
-- 12: corebank/calendar.Check
def code12 : FCode := ⟨1, [.tmp 2],
 (.seq (.s [.box 1 (.t 0), .as 2 (.c (.i .i64 0))] [])
 (.seq (.blk 0 (.seq (.q [(3, (.op (.un .not) [(.op (.call false 33) [(.op (.ld 1 false) [(.op (.fa 0 1) [(.sl 1)])])])]))])
 (.cond (.sl 3) (.seq (.q [(2, (.k (.i .i64 4)))])
 (.ret [2])) (.seq (.q [(8, (.ite (.ite (.op (.bin .geq) [(.op .len [(.op (.ld 1 false) [(.op (.fa 1 1) [(.sl 1)])])]), (.k (.i .i64 7))]) (.k (.b true)) (.op (.un .not) [(.op (.call false 34) [(.op (.ld 1 false) [(.op (.fa 1 1) [(.sl 1)])]), (.k (.i .i64 0)), (.k (.i .i64 6))])])) (.k (.b true)) (.op (.un .not) [(.op (.call false 35) [(.op (.ld 1 false) [(.op (.fa 1 1) [(.sl 1)])])])])))])
 (.cond (.sl 8) (.seq (.q [(2, (.k (.i .i64 1)))])
 (.ret [2])) (.seq (.q [(25, (.op (.bin .gtr) [(.op .len [(.op (.ld 1 false) [(.op (.fa 2 1) [(.sl 1)])])]), (.k (.i .i64 400))]))])
 (.cond (.sl 25) (.seq (.q [(2, (.k (.i .i64 5)))])
 (.ret [2])) (.seq (.q [(30, (.op (.un .not) [(.op (.call false 34) [(.op (.ld 1 false) [(.op (.fa 2 1) [(.sl 1)])]), (.k (.i .i64 0)), (.k (.i .i64 73048))])]))])
 (.cond (.sl 30) (.seq (.q [(2, (.k (.i .i64 1)))])
 (.ret [2])) (.seq (.q [(35, (.op (.un .not) [(.op (.call false 35) [(.op (.ld 1 false) [(.op (.fa 2 1) [(.sl 1)])])])]))])
 (.cond (.sl 35) (.seq (.q [(2, (.k (.i .i64 10)))])
 (.ret [2])) .skip)))))))))))
 (.seq (.q [(2, (.k (.i .i64 0)))])
 (.ret [2]))))⟩
theorem comp12 : compile Try.prog Try.f12 = some code12 := by kernel_rfl
theorem okf12 : okFn Try.prog 12 = true := by kernel_rfl
-- 13: corebank/corebankref05.Check
def body13_1 : C :=
 (.seq (.seq (.q [(13, (.op (.bin .lss) [(.sl 3), (.op .len [(.op (.ld 1 false) [(.op (.fa 1 1) [(.sl 1)])])])]))])
 (.cond (.sl 13) .skip (.exit 0 [1])))
 (.seq (.blk 1 (.seq (.q [(29, (.ite (.op (.bin .lss) [(.op (.ld 1 false) [(.op (.ix 1) [(.op (.ld 1 false) [(.op (.fa 1 1) [(.sl 1)])]), (.sl 3)])]), (.k (.i .i64 0))]) (.k (.b true)) (.op (.bin .gtr) [(.op (.ld 1 false) [(.op (.ix 1) [(.op (.ld 1 false) [(.op (.fa 1 1) [(.sl 1)])]), (.sl 3)])]), (.k (.i .i64 6))])))])
 (.cond (.sl 29) (.seq (.q [(2, (.k (.i .i64 1)))])
 (.ret [2])) .skip)))
 (.q [(3, (.op (.bin .add) [(.sl 3), (.k (.i .i64 1))]))])))
def body13_2 : C :=
 (.seq (.seq (.q [(48, (.op (.bin .lss) [(.sl 4), (.op .len [(.op (.ld 1 false) [(.op (.fa 2 1) [(.sl 1)])])])]))])
 (.cond (.sl 48) .skip (.exit 2 [1])))
 (.seq (.blk 3 (.seq (.q [(57, (.op (.un .not) [(.op (.call false 27) [(.op (.ld 1 false) [(.op (.ix 1) [(.op (.ld 1 false) [(.op (.fa 2 1) [(.sl 1)])]), (.sl 4)])])])]))])
 (.cond (.sl 57) (.seq (.q [(2, (.k (.i .i64 1)))])
 (.ret [2])) .skip)))
 (.q [(4, (.op (.bin .add) [(.sl 4), (.k (.i .i64 1))]))])))
def code13 : FCode := ⟨1, [.tmp 2],
 (.seq (.s [.box 1 (.t 0), .as 2 (.c (.i .i64 0))] [])
 (.seq (.seq (.q [(8, (.op (.un .not) [(.op (.call false 36) [(.op (.ld 1 false) [(.op (.fa 0 1) [(.sl 1)])])])]))])
 (.cond (.sl 8) (.seq (.q [(2, (.k (.i .i64 4)))])
 (.ret [2])) .skip))
 (.seq (.seq (.q [(3, (.k (.i .i64 0)))])
 (.blk 0 (.loop [1, 3] body13_1)))
 (.seq (.seq (.q [(39, (.ite (.op (.bin .gtr) [(.op .len [(.op (.ld 1 false) [(.op (.fa 1 1) [(.sl 1)])])]), (.k (.i .i64 6))]) (.k (.b true)) (.op (.un .not) [(.op (.call false 37) [(.op (.ld 1 false) [(.op (.fa 1 1) [(.sl 1)])])])])))])
 (.cond (.sl 39) (.seq (.q [(2, (.k (.i .i64 1)))])
 (.ret [2])) .skip))
 (.seq (.seq (.q [(43, (.op (.bin .gtr) [(.op .len [(.op (.ld 1 false) [(.op (.fa 2 1) [(.sl 1)])])]), (.k (.i .i64 400))]))])
 (.cond (.sl 43) (.seq (.q [(2, (.k (.i .i64 5)))])
 (.ret [2])) .skip))
 (.seq (.seq (.q [(4, (.k (.i .i64 0)))])
 (.blk 2 (.loop [1, 4] body13_2)))
 (.seq (.seq (.q [(61, (.op (.un .not) [(.op (.call false 37) [(.op (.ld 1 false) [(.op (.fa 2 1) [(.sl 1)])])])]))])
 (.cond (.sl 61) (.seq (.q [(2, (.k (.i .i64 10)))])
 (.ret [2])) .skip))
 (.seq (.q [(2, (.k (.i .i64 0)))])
 (.ret [2])))))))))⟩
theorem comp13 : compile Try.prog Try.f13 = some code13 := by kernel_rfl
theorem okf13 : okFn Try.prog 13 = true := by kernel_rfl
-- 14: corebank/corebanklaw05.few
def code14 : FCode := ⟨1, [.tmp 2],
 (.seq (.s [.box 1 (.t 0), .as 2 (.c (.b false))] [])
 (.seq (.q [(2, (.ite (.op (.bin .leq) [(.op .len [(.op (.ld 1 false) [(.op (.fa 1 1) [(.sl 1)])])]), (.k (.i .i64 20))]) (.op (.bin .leq) [(.op .len [(.op (.ld 1 false) [(.op (.fa 2 1) [(.sl 1)])])]), (.k (.i .i64 40))]) (.k (.b false))))])
 (.ret [2])))⟩
theorem comp14 : compile Try.prog Try.f14 = some code14 := by kernel_rfl
theorem okf14 : okFn Try.prog 14 = true := by kernel_rfl
-- 15: corebank/calendar.Next
def code15 : FCode := ⟨2, [.tmp 4, .tmp 5],
 (.seq (.s [.box 2 (.t 0), .as 4 (.c (.i .i64 0)), .as 5 (.c (.i .i64 0))] [])
 (.seq (.s [.mv 6 (.t 1), .mkf 7 (.func 39) 0 [(.t 2)], .call (some 8) 38 [(.t 6), (.c (.i .i64 1)), (.t 7)], .ext 9 0 8, .ext 10 1 8, .as 4 (.t 9), .as 5 (.t 10)] [6, 7, 8, 9, 10])
 (.ret [4, 5])))⟩
theorem comp15 : compile Try.prog Try.f15 = some code15 := by kernel_rfl
theorem okf15 : okFn Try.prog 15 = true := by kernel_rfl
-- 16: corebank/corebankref05.Next
def body16_1 : C :=
 (.seq (.seq (.q [(12, (.op (.bin .leq) [(.sl 6), (.k (.i .i64 73048))]))])
 (.cond (.sl 12) .skip (.exit 0 [])))
 (.seq (.blk 1 (.seq (.q [(17, (.op (.call false 20) [(.op (.ld 3 true) [(.sl 2)]), (.sl 6)]))])
 (.cond (.sl 17) (.seq (.q [(4, (.sl 6)), (5, (.k (.i .i64 0)))])
 (.ret [4, 5])) .skip)))
 (.q [(6, (.op (.bin .add) [(.sl 6), (.k (.i .i64 1))]))])))
def code16 : FCode := ⟨2, [.tmp 4, .tmp 5],
 (.seq (.s [.box 2 (.t 0), .as 4 (.c (.i .i64 0)), .as 5 (.c (.i .i64 0))] [])
 (.seq (.seq (.q [(9, (.op (.un .not) [(.op (.call false 27) [(.sl 1)])]))])
 (.cond (.sl 9) (.seq (.q [(4, (.k (.i .i64 0))), (5, (.k (.i .i64 1)))])
 (.ret [4, 5])) .skip))
 (.seq (.seq (.q [(6, (.sl 1))])
 (.blk 0 (.loop [2, 6] body16_1)))
 (.seq (.q [(4, (.k (.i .i64 0))), (5, (.k (.i .i64 11)))])
 (.ret [4, 5])))))⟩
theorem comp16 : compile Try.prog Try.f16 = some code16 := by kernel_rfl
theorem okf16 : okFn Try.prog 16 = true := by kernel_rfl
-- 17: corebank/calendar.Prev
def code17 : FCode := ⟨2, [.tmp 4, .tmp 5],
 (.seq (.s [.box 2 (.t 0), .as 4 (.c (.i .i64 0)), .as 5 (.c (.i .i64 0))] [])
 (.seq (.s [.mv 6 (.t 1), .mkf 7 (.func 40) 0 [(.t 2)], .call (some 8) 38 [(.t 6), (.c (.i .i64 (-1))), (.t 7)], .ext 9 0 8, .ext 10 1 8, .as 4 (.t 9), .as 5 (.t 10)] [6, 7, 8, 9, 10])
 (.ret [4, 5])))⟩
theorem comp17 : compile Try.prog Try.f17 = some code17 := by kernel_rfl
theorem okf17 : okFn Try.prog 17 = true := by kernel_rfl
-- 18: corebank/corebankref05.Prev
def body18_1 : C :=
 (.seq (.seq (.q [(12, (.op (.bin .geq) [(.sl 6), (.k (.i .i64 0))]))])
 (.cond (.sl 12) .skip (.exit 0 [])))
 (.seq (.blk 1 (.seq (.q [(17, (.op (.call false 20) [(.op (.ld 3 true) [(.sl 2)]), (.sl 6)]))])
 (.cond (.sl 17) (.seq (.q [(4, (.sl 6)), (5, (.k (.i .i64 0)))])
 (.ret [4, 5])) .skip)))
 (.q [(6, (.op (.bin .sub) [(.sl 6), (.k (.i .i64 1))]))])))
def code18 : FCode := ⟨2, [.tmp 4, .tmp 5],
 (.seq (.s [.box 2 (.t 0), .as 4 (.c (.i .i64 0)), .as 5 (.c (.i .i64 0))] [])
 (.seq (.seq (.q [(9, (.op (.un .not) [(.op (.call false 27) [(.sl 1)])]))])
 (.cond (.sl 9) (.seq (.q [(4, (.k (.i .i64 0))), (5, (.k (.i .i64 1)))])
 (.ret [4, 5])) .skip))
 (.seq (.seq (.q [(6, (.sl 1))])
 (.blk 0 (.loop [2, 6] body18_1)))
 (.seq (.q [(4, (.k (.i .i64 0))), (5, (.k (.i .i64 11)))])
 (.ret [4, 5])))))⟩
theorem comp18 : compile Try.prog Try.f18 = some code18 := by kernel_rfl
theorem okf18 : okFn Try.prog 18 = true := by kernel_rfl
-- 19: corebank/calendar.Open
def code19 : FCode := ⟨2, [.tmp 4],
 (.seq (.s [.box 2 (.t 0), .as 4 (.c (.b false))] [])
 (.seq (.q [(4, (.ite (.ite (.op (.call true 41) [(.sl 1)]) (.op (.un .not) [(.op (.call true 42) [(.op (.ld 1 false) [(.op (.fa 1 1) [(.sl 2)])]), (.op (.call true 43) [(.sl 1)])])]) (.k (.b false))) (.op (.un .not) [(.op (.call true 42) [(.op (.ld 1 false) [(.op (.fa 2 1) [(.sl 2)])]), (.sl 1)])]) (.k (.b false))))])
 (.ret [4])))⟩
theorem comp19 : compile Try.prog Try.f19 = some code19 := by kernel_rfl
theorem okf19 : okFn Try.prog 19 = true := by kernel_rfl
-- 20: corebank/corebankref05.Open
def code20 : FCode := ⟨2, [.tmp 4],
 (.seq (.s [.box 2 (.t 0), .as 4 (.c (.b false))] [])
 (.seq (.q [(4, (.ite (.ite (.op (.call true 27) [(.sl 1)]) (.op (.un .not) [(.op (.call true 44) [(.op (.ld 1 false) [(.op (.fa 1 1) [(.sl 2)])]), (.op (.call true 45) [(.sl 1)])])]) (.k (.b false))) (.op (.un .not) [(.op (.call true 44) [(.op (.ld 1 false) [(.op (.fa 2 1) [(.sl 2)])]), (.sl 1)])]) (.k (.b false))))])
 (.ret [4])))⟩
theorem comp20 : compile Try.prog Try.f20 = some code20 := by kernel_rfl
theorem okf20 : okFn Try.prog 20 = true := by kernel_rfl
-- 21: corebank/calendar.Adjust
def code21 : FCode := ⟨3, [.tmp 6, .tmp 7],
 (.seq (.s [.box 3 (.t 0), .as 6 (.c (.i .i64 0)), .as 7 (.c (.i .i64 0))] [])
 (.seq (.seq (.q [(12, (.op (.un .not) [(.op (.call false 41) [(.sl 1)])]))])
 (.cond (.sl 12) (.seq (.q [(6, (.k (.i .i64 0))), (7, (.k (.i .i64 1)))])
 (.ret [6, 7])) .skip))
 (.seq (.seq (.q [(13, (.sl 2))])
 (.blk 0 (.seq (.q [(14, (.op (.bin .eql) [(.sl 13), (.k (.i .i64 0))]))])
 (.cond (.sl 14) (.seq (.q [(6, (.sl 1)), (7, (.k (.i .i64 0)))])
 (.ret [6, 7])) (.seq (.q [(17, (.op (.bin .eql) [(.sl 13), (.k (.i .i64 1))]))])
 (.cond (.sl 17) (.seq (.q [(6, (.op (.ext 0) [(.op (.call false 15) [(.op (.ld 3 true) [(.sl 3)]), (.sl 1)])])), (7, (.op (.ext 1) [(.op (.call false 15) [(.op (.ld 3 true) [(.sl 3)]), (.sl 1)])]))])
 (.ret [6, 7])) (.seq (.q [(24, (.op (.bin .eql) [(.sl 13), (.k (.i .i64 3))]))])
 (.cond (.sl 24) (.seq (.q [(6, (.op (.ext 0) [(.op (.call false 17) [(.op (.ld 3 true) [(.sl 3)]), (.sl 1)])])), (7, (.op (.ext 1) [(.op (.call false 17) [(.op (.ld 3 true) [(.sl 3)]), (.sl 1)])]))])
 (.ret [6, 7])) (.seq (.q [(31, (.op (.bin .eql) [(.sl 13), (.k (.i .i64 2))]))])
 (.cond (.sl 31) (.seq (.seq (.q [(8, (.op (.ext 0) [(.op (.call false 15) [(.op (.ld 3 true) [(.sl 3)]), (.sl 1)])])), (9, (.op (.ext 1) [(.op (.call false 15) [(.op (.ld 3 true) [(.sl 3)]), (.sl 1)])]))])
 (.seq (.q [(46, (.ite (.op (.bin .eql) [(.sl 9), (.k (.i .i64 0))]) (.op (.bin .leq) [(.sl 8), (.op (.call false 46) [(.sl 1)])]) (.k (.b false))))])
 (.cond (.sl 46) (.seq (.q [(6, (.sl 8)), (7, (.k (.i .i64 0)))])
 (.ret [6, 7])) .skip)))
 (.seq (.q [(6, (.op (.ext 0) [(.op (.call false 17) [(.op (.ld 3 true) [(.sl 3)]), (.sl 1)])])), (7, (.op (.ext 1) [(.op (.call false 17) [(.op (.ld 3 true) [(.sl 3)]), (.sl 1)])]))])
 (.ret [6, 7]))) .skip))))))))))
 (.seq (.q [(6, (.k (.i .i64 0))), (7, (.k (.i .i64 1)))])
 (.ret [6, 7])))))⟩
theorem comp21 : compile Try.prog Try.f21 = some code21 := by kernel_rfl
theorem okf21 : okFn Try.prog 21 = true := by kernel_rfl
-- 22: corebank/corebankref05.Adjust
def code22 : FCode := ⟨3, [.tmp 6, .tmp 7],
 (.seq (.s [.box 3 (.t 0), .as 6 (.c (.i .i64 0)), .as 7 (.c (.i .i64 0))] [])
 (.seq (.seq (.q [(20, (.ite (.ite (.op (.un .not) [(.op (.call false 27) [(.sl 1)])]) (.k (.b true)) (.op (.bin .lss) [(.sl 2), (.k (.i .i64 0))])) (.k (.b true)) (.op (.bin .gtr) [(.sl 2), (.k (.i .i64 3))])))])
 (.cond (.sl 20) (.seq (.q [(6, (.k (.i .i64 0))), (7, (.k (.i .i64 1)))])
 (.ret [6, 7])) .skip))
 (.seq (.seq (.q [(22, (.op (.bin .eql) [(.sl 2), (.k (.i .i64 0))]))])
 (.cond (.sl 22) (.seq (.q [(6, (.sl 1)), (7, (.k (.i .i64 0)))])
 (.ret [6, 7])) .skip))
 (.seq (.seq (.q [(25, (.op (.bin .eql) [(.sl 2), (.k (.i .i64 3))]))])
 (.cond (.sl 25) (.seq (.q [(6, (.op (.ext 0) [(.op (.call false 18) [(.op (.ld 3 true) [(.sl 3)]), (.sl 1)])])), (7, (.op (.ext 1) [(.op (.call false 18) [(.op (.ld 3 true) [(.sl 3)]), (.sl 1)])]))])
 (.ret [6, 7])) .skip))
 (.seq (.q [(8, (.op (.ext 0) [(.op (.call false 16) [(.op (.ld 3 true) [(.sl 3)]), (.sl 1)])])), (9, (.op (.ext 1) [(.op (.call false 16) [(.op (.ld 3 true) [(.sl 3)]), (.sl 1)])]))])
 (.seq (.seq (.q [(38, (.op (.bin .eql) [(.sl 2), (.k (.i .i64 1))]))])
 (.cond (.sl 38) (.seq (.q [(6, (.sl 8)), (7, (.sl 9))])
 (.ret [6, 7])) .skip))
 (.seq (.seq (.q [(48, (.ite (.op (.bin .eql) [(.sl 9), (.k (.i .i64 0))]) (.op (.bin .leq) [(.sl 8), (.op (.call false 47) [(.sl 1)])]) (.k (.b false))))])
 (.cond (.sl 48) (.seq (.q [(6, (.sl 8)), (7, (.k (.i .i64 0)))])
 (.ret [6, 7])) .skip))
 (.seq (.q [(6, (.op (.ext 0) [(.op (.call false 18) [(.op (.ld 3 true) [(.sl 3)]), (.sl 1)])])), (7, (.op (.ext 1) [(.op (.call false 18) [(.op (.ld 3 true) [(.sl 3)]), (.sl 1)])]))])
 (.ret [6, 7])))))))))⟩
theorem comp22 : compile Try.prog Try.f22 = some code22 := by kernel_rfl
theorem okf22 : okFn Try.prog 22 = true := by kernel_rfl
-- 23: corebank/calendar.Add
def body23_1 : C :=
 (.seq (.q [(23, (.op (.bin .lss) [(.sl 22), (.sl 21)]))])
 (.seq (.cond (.sl 23) .skip (.exit 0 [1]))
 (.seq (.blk 1 (.seq (.seq (.q [(25, (.op (.bin .eql) [(.sl 1), (.k (.i .i64 73048))]))])
 (.cond (.sl 25) (.seq (.q [(6, (.k (.i .i64 0))), (7, (.k (.i .i64 11)))])
 (.ret [6, 7])) .skip))
 (.seq (.q [(8, (.op (.ext 0) [(.op (.call false 15) [(.op (.ld 3 true) [(.sl 3)]), (.op (.bin .add) [(.sl 1), (.k (.i .i64 1))])])])), (9, (.op (.ext 1) [(.op (.call false 15) [(.op (.ld 3 true) [(.sl 3)]), (.op (.bin .add) [(.sl 1), (.k (.i .i64 1))])])]))])
 (.seq (.seq (.q [(34, (.op (.bin .neq) [(.sl 9), (.k (.i .i64 0))]))])
 (.cond (.sl 34) (.seq (.q [(6, (.k (.i .i64 0))), (7, (.sl 9))])
 (.ret [6, 7])) .skip))
 (.q [(1, (.sl 8))])))))
 (.q [(22, (.op (.bin .add) [(.sl 22), (.k (.i .i64 1))]))]))))
def code23 : FCode := ⟨3, [.tmp 6, .tmp 7],
 (.seq (.s [.box 3 (.t 0), .as 6 (.c (.i .i64 0)), .as 7 (.c (.i .i64 0))] [])
 (.seq (.seq (.q [(20, (.ite (.ite (.op (.un .not) [(.op (.call false 41) [(.sl 1)])]) (.k (.b true)) (.op (.bin .lss) [(.sl 2), (.k (.i .i64 1))])) (.k (.b true)) (.op (.bin .gtr) [(.sl 2), (.k (.i .i64 1000))])))])
 (.cond (.sl 20) (.seq (.q [(6, (.k (.i .i64 0))), (7, (.k (.i .i64 1)))])
 (.ret [6, 7])) .skip))
 (.seq (.seq (.q [(21, (.sl 2)), (22, (.k (.i .i64 0)))])
 (.blk 0 (.loop [1, 3, 21, 22] body23_1)))
 (.seq (.q [(6, (.sl 1)), (7, (.k (.i .i64 0)))])
 (.ret [6, 7])))))⟩
theorem comp23 : compile Try.prog Try.f23 = some code23 := by kernel_rfl
theorem okf23 : okFn Try.prog 23 = true := by kernel_rfl
-- 24: corebank/corebankref05.Add
def body24_1 : C :=
 (.seq (.seq (.q [(23, (.op (.bin .leq) [(.sl 8), (.k (.i .i64 73048))]))])
 (.cond (.sl 23) .skip (.exit 0 [])))
 (.seq (.blk 1 (.seq (.seq (.q [(28, (.op (.call false 20) [(.op (.ld 3 true) [(.sl 3)]), (.sl 8)]))])
 (.cond (.sl 28) (.q [(2, (.op (.bin .sub) [(.sl 2), (.k (.i .i64 1))]))]) .skip))
 (.seq (.q [(32, (.op (.bin .eql) [(.sl 2), (.k (.i .i64 0))]))])
 (.cond (.sl 32) (.seq (.q [(6, (.sl 8)), (7, (.k (.i .i64 0)))])
 (.ret [6, 7])) .skip))))
 (.q [(8, (.op (.bin .add) [(.sl 8), (.k (.i .i64 1))]))])))
def code24 : FCode := ⟨3, [.tmp 6, .tmp 7],
 (.seq (.s [.box 3 (.t 0), .as 6 (.c (.i .i64 0)), .as 7 (.c (.i .i64 0))] [])
 (.seq (.seq (.q [(19, (.ite (.ite (.op (.un .not) [(.op (.call false 27) [(.sl 1)])]) (.k (.b true)) (.op (.bin .lss) [(.sl 2), (.k (.i .i64 1))])) (.k (.b true)) (.op (.bin .gtr) [(.sl 2), (.k (.i .i64 1000))])))])
 (.cond (.sl 19) (.seq (.q [(6, (.k (.i .i64 0))), (7, (.k (.i .i64 1)))])
 (.ret [6, 7])) .skip))
 (.seq (.seq (.q [(8, (.op (.bin .add) [(.sl 1), (.k (.i .i64 1))]))])
 (.blk 0 (.loop [2, 3, 8] body24_1)))
 (.seq (.q [(6, (.k (.i .i64 0))), (7, (.k (.i .i64 11)))])
 (.ret [6, 7])))))⟩
theorem comp24 : compile Try.prog Try.f24 = some code24 := by kernel_rfl
theorem okf24 : okFn Try.prog 24 = true := by kernel_rfl
-- 25: corebank/calendar.Count
def body25_1 : C :=
 (.seq (.seq (.q [(14, (.op (.bin .lss) [(.sl 8), (.op .mn [(.sl 2), (.k (.i .i64 73049))])]))])
 (.cond (.sl 14) .skip (.exit 0 [7])))
 (.seq (.blk 1 (.seq (.q [(19, (.op (.call false 19) [(.op (.ld 3 true) [(.sl 3)]), (.sl 8)]))])
 (.cond (.sl 19) (.q [(7, (.op (.bin .add) [(.sl 7), (.k (.i .i64 1))]))]) .skip)))
 (.q [(8, (.op (.bin .add) [(.sl 8), (.k (.i .i64 1))]))])))
def code25 : FCode := ⟨3, [.tmp 6],
 (.seq (.s [.box 3 (.t 0), .as 6 (.c (.i .i64 0))] [])
 (.seq (.q [(7, (.k (.i .i64 0)))])
 (.seq (.seq (.q [(8, (.op .mx [(.sl 1), (.k (.i .i64 0))]))])
 (.blk 0 (.loop [2, 3, 7, 8] body25_1)))
 (.seq (.q [(6, (.sl 7))])
 (.ret [6])))))⟩
theorem comp25 : compile Try.prog Try.f25 = some code25 := by kernel_rfl
theorem okf25 : okFn Try.prog 25 = true := by kernel_rfl
-- 26: corebank/corebankref05.Count
def body26_1 : C :=
 (.seq (.seq (.q [(10, (.op (.bin .leq) [(.sl 8), (.k (.i .i64 73048))]))])
 (.cond (.sl 10) .skip (.exit 0 [7])))
 (.seq (.blk 1 (.seq (.q [(25, (.ite (.ite (.op (.bin .geq) [(.sl 8), (.sl 1)]) (.op (.bin .lss) [(.sl 8), (.sl 2)]) (.k (.b false))) (.op (.call false 20) [(.op (.ld 3 true) [(.sl 3)]), (.sl 8)]) (.k (.b false))))])
 (.cond (.sl 25) (.q [(7, (.op (.bin .add) [(.sl 7), (.k (.i .i64 1))]))]) .skip)))
 (.q [(8, (.op (.bin .add) [(.sl 8), (.k (.i .i64 1))]))])))
def code26 : FCode := ⟨3, [.tmp 6],
 (.seq (.s [.box 3 (.t 0), .as 6 (.c (.i .i64 0))] [])
 (.seq (.q [(7, (.k (.i .i64 0)))])
 (.seq (.seq (.q [(8, (.k (.i .i64 0)))])
 (.blk 0 (.loop [1, 2, 3, 7, 8] body26_1)))
 (.seq (.q [(6, (.sl 7))])
 (.ret [6])))))⟩
theorem comp26 : compile Try.prog Try.f26 = some code26 := by kernel_rfl
theorem okf26 : okFn Try.prog 26 = true := by kernel_rfl
-- 27: corebank/corebankref04.Valid
def code27 : FCode := ⟨1, [.tmp 2],
 (.seq (.q [(2, (.k (.b false)))])
 (.seq (.q [(2, (.ite (.op (.bin .geq) [(.sl 0), (.k (.i .i64 0))]) (.op (.bin .leq) [(.sl 0), (.k (.i .i64 73048))]) (.k (.b false))))])
 (.ret [2])))⟩
theorem comp27 : compile Try.prog Try.f27 = some code27 := by kernel_rfl
theorem okf27 : okFn Try.prog 27 = true := by kernel_rfl
-- 28: corebank/calendar.Join
def code28 : FCode := ⟨2, [.cell 4 3 true],
 (.seq (.s [.box 2 (.t 0), .box 3 (.t 1), .alo 4 [(.s []), (.l []), (.l [])]] [])
 (.seq (.d [.fa 5 0 1 (.t 2), .q 6 (.ld 1 false) [(.t 5)], .fa 7 1 1 (.t 2), .q 8 (.ld 1 false) [(.t 7)], .fa 9 1 1 (.t 3), .q 10 (.ld 1 false) [(.t 9)], .call (some 11) 48 [(.t 8), (.t 10)], .fa 12 2 1 (.t 2), .q 13 (.ld 1 false) [(.t 12)], .fa 14 2 1 (.t 3), .q 15 (.ld 1 false) [(.t 14)], .call (some 16) 48 [(.t 13), (.t 15)], .bld 17 [(.s []), (.l []), (.l [])] [(0, 1), (1, 1), (2, 1)] [(.t 6), (.t 11), (.t 16)], .sto 3 (.t 4) (.t 17)] [[], [0], [], [2], [], [4], [3, 5], [], [7], [], [9], [8, 10, 6], [1, 6, 11], [12, 11, 0, 1, 2, 3, 4, 5, 6, 7, 8, 9, 10, 11, 12]] [5, 6, 7, 8, 9, 10, 11, 12, 13, 14, 15, 16, 17])
 (.ret [4])))⟩
theorem comp28 : compile Try.prog Try.f28 = some code28 := by kernel_rfl
theorem okf28 : okFn Try.prog 28 = true := by kernel_rfl
-- 29: corebank/corebankref05.Same
def code29 : FCode := ⟨2, [.tmp 4],
 (.seq (.s [.box 2 (.t 0), .box 3 (.t 1), .as 4 (.c (.b false))] [])
 (.seq (.q [(4, (.ite (.ite (.op (.bin .eql) [(.op (.ld 1 false) [(.op (.fa 0 1) [(.sl 2)])]), (.op (.ld 1 false) [(.op (.fa 0 1) [(.sl 3)])])]) (.op (.call false 49) [(.op (.ld 1 false) [(.op (.fa 1 1) [(.sl 2)])]), (.op (.ld 1 false) [(.op (.fa 1 1) [(.sl 3)])])]) (.k (.b false))) (.op (.call false 49) [(.op (.ld 1 false) [(.op (.fa 2 1) [(.sl 2)])]), (.op (.ld 1 false) [(.op (.fa 2 1) [(.sl 3)])])]) (.k (.b false))))])
 (.ret [4])))⟩
theorem comp29 : compile Try.prog Try.f29 = some code29 := by kernel_rfl
theorem okf29 : okFn Try.prog 29 = true := by kernel_rfl
-- 30: corebank/corebankref05.Join
def code30 : FCode := ⟨2, [.cell 4 3 true],
 (.seq (.s [.box 2 (.t 0), .box 3 (.t 1), .alo 4 [(.s []), (.l []), (.l [])]] [])
 (.seq (.d [.fa 5 0 1 (.t 2), .q 6 (.ld 1 false) [(.t 5)], .fa 7 1 1 (.t 2), .q 8 (.ld 1 false) [(.t 7)], .fa 9 1 1 (.t 3), .q 10 (.ld 1 false) [(.t 9)], .call (some 11) 50 [(.t 8), (.t 10)], .fa 12 2 1 (.t 2), .q 13 (.ld 1 false) [(.t 12)], .fa 14 2 1 (.t 3), .q 15 (.ld 1 false) [(.t 14)], .call (some 16) 50 [(.t 13), (.t 15)], .bld 17 [(.s []), (.l []), (.l [])] [(0, 1), (1, 1), (2, 1)] [(.t 6), (.t 11), (.t 16)], .sto 3 (.t 4) (.t 17)] [[], [0], [], [2], [], [4], [3, 5], [], [7], [], [9], [8, 10, 6], [1, 6, 11], [12, 11, 0, 1, 2, 3, 4, 5, 6, 7, 8, 9, 10, 11, 12]] [5, 6, 7, 8, 9, 10, 11, 12, 13, 14, 15, 16, 17])
 (.ret [4])))⟩
theorem comp30 : compile Try.prog Try.f30 = some code30 := by kernel_rfl
theorem okf30 : okFn Try.prog 30 = true := by kernel_rfl
-- 31: corebank/calendar.Find
def code31 : FCode := ⟨2, [.cell 4 3 true, .tmp 5],
 (.seq (.s [.box 3 (.t 1), .alo 4 [(.s []), (.l []), (.l [])], .as 5 (.c (.b false))] [])
 (.seq (.s [.mv 8 (.t 0), .mkf 9 (.func 52) 0 [(.t 3)], .call (some 10) 51 [(.t 8), (.t 9)], .as 6 (.t 10)] [8, 9, 10])
 (.seq (.seq (.q [(12, (.op (.bin .lss) [(.sl 6), (.k (.i .i64 0))]))])
 (.cond (.sl 12) (.seq (.s [.bld 13 [(.s []), (.l []), (.l [])] [] [], .sto 3 (.t 4) (.t 13), .as 5 (.c (.b false))] [13])
 (.ret [4, 5])) .skip))
 (.seq (.s [.mv 14 (.t 0), .mv 15 (.t 6), .ix 16 3 (.t 14) (.t 15), .q 17 (.ld 3 true) [(.t 16)], .alo 7 [(.s []), (.l []), (.l [])], .sto 3 (.t 7) (.t 17)] [14, 15, 16, 17])
 (.seq (.d [.fa 18 1 1 (.t 7), .q 19 (.ld 1 false) [(.t 18)], .call (some 20) 53 [(.t 19)], .fa 21 2 1 (.t 7), .q 22 (.ld 1 false) [(.t 21)], .call (some 23) 53 [(.t 22)], .fa 24 1 1 (.t 7), .sto 1 (.t 24) (.t 20), .fa 25 2 1 (.t 7), .sto 1 (.t 25) (.t 23)] [[], [0], [1], [], [3], [4, 2], [0, 1, 2, 3, 4], [6, 2, 5, 0, 1, 2, 3, 4], [0, 1, 2, 3, 4, 5, 6, 7], [8, 5, 7, 0, 1, 2, 3, 4, 5, 6, 7]] [18, 19, 20, 21, 22, 23, 24, 25])
 (.seq (.s [.q 26 (.ld 3 true) [(.t 7)], .sto 3 (.t 4) (.t 26), .as 5 (.c (.b true))] [26])
 (.ret [4, 5])))))))⟩
theorem comp31 : compile Try.prog Try.f31 = some code31 := by kernel_rfl
theorem okf31 : okFn Try.prog 31 = true := by kernel_rfl
-- 32: corebank/corebankref05.Find
def body32_1 : C :=
 (.seq (.seq (.q [(10, (.op (.bin .lss) [(.sl 6), (.op .len [(.sl 0)])]))])
 (.cond (.sl 10) .skip (.exit 0 [4])))
 (.seq (.blk 1 (.seq (.q [(19, (.op (.bin .eql) [(.op (.ld 1 false) [(.op (.fa 0 1) [(.op (.ix 3) [(.sl 0), (.sl 6)])])]), (.sl 1)]))])
 (.cond (.sl 19) (.seq (.s [.mv 20 (.t 0), .mv 21 (.t 6), .ix 22 3 (.t 20) (.t 21), .q 23 (.ld 3 true) [(.t 22)], .sto 3 (.t 4) (.t 23), .as 5 (.c (.b true))] [20, 21, 22, 23])
 (.ret [4, 5])) .skip)))
 (.q [(6, (.op (.bin .add) [(.sl 6), (.k (.i .i64 1))]))])))
def code32 : FCode := ⟨2, [.cell 4 3 true, .tmp 5],
 (.seq (.s [.alo 4 [(.s []), (.l []), (.l [])], .as 5 (.c (.b false))] [])
 (.seq (.seq (.q [(6, (.k (.i .i64 0)))])
 (.blk 0 (.loop [0, 1, 4, 6] body32_1)))
 (.seq (.s [.bld 24 [(.s []), (.l []), (.l [])] [] [], .sto 3 (.t 4) (.t 24), .as 5 (.c (.b false))] [24])
 (.ret [4, 5]))))⟩
theorem comp32 : compile Try.prog Try.f32 = some code32 := by kernel_rfl
theorem okf32 : okFn Try.prog 32 = true := by kernel_rfl
-- 33: corebank/calendar.name
def body33_1 : C :=
 (.seq (.q [(9, (.op (.bin .lss) [(.sl 8), (.sl 7)]))])
 (.seq (.cond (.sl 9) .skip (.exit 0 [0]))
 (.seq (.blk 1 (.seq (.q [(3, (.sl 8))])
 (.seq (.q [(4, (.op .idx [(.sl 0), (.sl 3)]))])
 (.seq (.q [(5, (.ite (.op (.bin .geq) [(.sl 4), (.k (.i .u8 97))]) (.op (.bin .leq) [(.sl 4), (.k (.i .u8 122))]) (.k (.b false))))])
 (.seq (.q [(37, (.ite (.op (.un .not) [(.sl 5)]) (.ite (.op (.bin .eql) [(.sl 3), (.k (.i .i64 0))]) (.k (.b true)) (.ite (.op (.bin .neq) [(.sl 4), (.k (.i .u8 95))]) (.ite (.op (.bin .lss) [(.sl 4), (.k (.i .u8 48))]) (.k (.b true)) (.op (.bin .gtr) [(.sl 4), (.k (.i .u8 57))])) (.k (.b false)))) (.k (.b false))))])
 (.cond (.sl 37) (.seq (.q [(2, (.k (.b false)))])
 (.ret [2])) .skip))))))
 (.q [(8, (.op (.bin .add) [(.sl 8), (.k (.i .i64 1))]))]))))
def code33 : FCode := ⟨1, [.tmp 2],
 (.seq (.q [(2, (.k (.b false)))])
 (.seq (.seq (.q [(7, (.op .slen [(.sl 0)])), (8, (.k (.i .i64 0)))])
 (.blk 0 (.loop [0, 7, 8] body33_1)))
 (.seq (.q [(2, (.ite (.op (.bin .geq) [(.op .slen [(.sl 0)]), (.k (.i .i64 1))]) (.op (.bin .leq) [(.op .slen [(.sl 0)]), (.k (.i .i64 16))]) (.k (.b false))))])
 (.ret [2]))))⟩
theorem comp33 : compile Try.prog Try.f33 = some code33 := by kernel_rfl
theorem okf33 : okFn Try.prog 33 = true := by kernel_rfl
-- 34: corebank/calendar.within
def code34 : FCode := ⟨3, [.tmp 6],
 (.seq (.s [.box 4 (.t 1), .box 5 (.t 2), .as 6 (.c (.b false))] [])
 (.seq (.s [.mv 7 (.t 0), .mkf 8 (.func 55) 0 [(.t 4), (.t 5)], .call (some 9) 54 [(.t 7), (.t 8)], .q 10 (.un .not) [(.t 9)], .as 6 (.t 10)] [7, 8, 9, 10])
 (.ret [6])))⟩
theorem comp34 : compile Try.prog Try.f34 = some code34 := by kernel_rfl
theorem okf34 : okFn Try.prog 34 = true := by kernel_rfl
-- 35: corebank/calendar.ascending
def body35_1 : C :=
 (.seq (.seq (.q [(7, (.op (.bin .lss) [(.sl 3), (.op .len [(.sl 0)])]))])
 (.cond (.sl 7) .skip (.exit 0 [])))
 (.seq (.blk 1 (.seq (.q [(19, (.op (.bin .leq) [(.op (.ld 1 false) [(.op (.ix 1) [(.sl 0), (.sl 3)])]), (.op (.ld 1 false) [(.op (.ix 1) [(.sl 0), (.op (.bin .sub) [(.sl 3), (.k (.i .i64 1))])])])]))])
 (.cond (.sl 19) (.seq (.q [(2, (.k (.b false)))])
 (.ret [2])) .skip)))
 (.q [(3, (.op (.bin .add) [(.sl 3), (.k (.i .i64 1))]))])))
def code35 : FCode := ⟨1, [.tmp 2],
 (.seq (.q [(2, (.k (.b false)))])
 (.seq (.seq (.q [(3, (.k (.i .i64 1)))])
 (.blk 0 (.loop [0, 3] body35_1)))
 (.seq (.q [(2, (.k (.b true)))])
 (.ret [2]))))⟩
theorem comp35 : compile Try.prog Try.f35 = some code35 := by kernel_rfl
theorem okf35 : okFn Try.prog 35 = true := by kernel_rfl
-- 36: corebank/corebankref05.Name
def body36_1 : C :=
 (.seq (.seq (.q [(25, (.op (.bin .lss) [(.sl 3), (.op .slen [(.sl 0)])]))])
 (.cond (.sl 25) .skip (.exit 0 [])))
 (.seq (.blk 1 (.seq (.q [(55, (.ite (.ite (.ite (.op (.bin .lss) [(.op .idx [(.sl 0), (.sl 3)]), (.k (.i .u8 97))]) (.k (.b true)) (.op (.bin .gtr) [(.op .idx [(.sl 0), (.sl 3)]), (.k (.i .u8 122))])) (.ite (.op (.bin .lss) [(.op .idx [(.sl 0), (.sl 3)]), (.k (.i .u8 48))]) (.k (.b true)) (.op (.bin .gtr) [(.op .idx [(.sl 0), (.sl 3)]), (.k (.i .u8 57))])) (.k (.b false))) (.op (.bin .neq) [(.op .idx [(.sl 0), (.sl 3)]), (.k (.i .u8 95))]) (.k (.b false))))])
 (.cond (.sl 55) (.seq (.q [(2, (.k (.b false)))])
 (.ret [2])) .skip)))
 (.q [(3, (.op (.bin .add) [(.sl 3), (.k (.i .i64 1))]))])))
def code36 : FCode := ⟨1, [.tmp 2],
 (.seq (.q [(2, (.k (.b false)))])
 (.seq (.seq (.q [(21, (.ite (.ite (.ite (.op (.bin .lss) [(.op .slen [(.sl 0)]), (.k (.i .i64 1))]) (.k (.b true)) (.op (.bin .gtr) [(.op .slen [(.sl 0)]), (.k (.i .i64 16))])) (.k (.b true)) (.op (.bin .lss) [(.op .idx [(.sl 0), (.k (.i .i64 0))]), (.k (.i .u8 97))])) (.k (.b true)) (.op (.bin .gtr) [(.op .idx [(.sl 0), (.k (.i .i64 0))]), (.k (.i .u8 122))])))])
 (.cond (.sl 21) (.seq (.q [(2, (.k (.b false)))])
 (.ret [2])) .skip))
 (.seq (.seq (.q [(3, (.k (.i .i64 0)))])
 (.blk 0 (.loop [0, 3] body36_1)))
 (.seq (.q [(2, (.k (.b true)))])
 (.ret [2])))))⟩
theorem comp36 : compile Try.prog Try.f36 = some code36 := by kernel_rfl
theorem okf36 : okFn Try.prog 36 = true := by kernel_rfl
-- 37: corebank/corebankref05.Rises
def body37_1 : C :=
 (.seq (.seq (.q [(7, (.op (.bin .lss) [(.sl 3), (.op .len [(.sl 0)])]))])
 (.cond (.sl 7) .skip (.exit 0 [])))
 (.seq (.blk 1 (.seq (.q [(19, (.op (.bin .leq) [(.op (.ld 1 false) [(.op (.ix 1) [(.sl 0), (.sl 3)])]), (.op (.ld 1 false) [(.op (.ix 1) [(.sl 0), (.op (.bin .sub) [(.sl 3), (.k (.i .i64 1))])])])]))])
 (.cond (.sl 19) (.seq (.q [(2, (.k (.b false)))])
 (.ret [2])) .skip)))
 (.q [(3, (.op (.bin .add) [(.sl 3), (.k (.i .i64 1))]))])))
def code37 : FCode := ⟨1, [.tmp 2],
 (.seq (.q [(2, (.k (.b false)))])
 (.seq (.seq (.q [(3, (.k (.i .i64 1)))])
 (.blk 0 (.loop [0, 3] body37_1)))
 (.seq (.q [(2, (.k (.b true)))])
 (.ret [2]))))⟩
theorem comp37 : compile Try.prog Try.f37 = some code37 := by kernel_rfl
theorem okf37 : okFn Try.prog 37 = true := by kernel_rfl
-- 38: corebank/calendar.search
def body38_1 : C :=
 (.seq (.seq (.q [(12, (.op (.call false 41) [(.sl 0)]))])
 (.cond (.sl 12) .skip (.exit 0 [])))
 (.seq (.blk 1 (.seq (.q [(18, (.op (.callv false) [(.sl 2), (.sl 0)]))])
 (.cond (.sl 18) (.seq (.q [(6, (.sl 0)), (7, (.k (.i .i64 0)))])
 (.ret [6, 7])) .skip)))
 (.q [(0, (.op (.bin .add) [(.sl 0), (.sl 1)]))])))
def code38 : FCode := ⟨3, [.tmp 6, .tmp 7],
 (.seq (.q [(6, (.k (.i .i64 0))), (7, (.k (.i .i64 0)))])
 (.seq (.seq (.q [(10, (.op (.un .not) [(.op (.call false 41) [(.sl 0)])]))])
 (.cond (.sl 10) (.seq (.q [(6, (.k (.i .i64 0))), (7, (.k (.i .i64 1)))])
 (.ret [6, 7])) .skip))
 (.seq (.blk 0 (.loop [0, 1, 2] body38_1))
 (.seq (.q [(6, (.k (.i .i64 0))), (7, (.k (.i .i64 11)))])
 (.ret [6, 7])))))⟩
theorem comp38 : compile Try.prog Try.f38 = some code38 := by kernel_rfl
theorem okf38 : okFn Try.prog 38 = true := by kernel_rfl
-- 39: corebank/calendar.Next$1
def code39 : FCode := ⟨2, [.tmp 3],
 (.seq (.q [(3, (.k (.b false)))])
 (.seq (.q [(3, (.op (.call false 19) [(.op (.ld 3 true) [(.sl 1)]), (.sl 0)]))])
 (.ret [3])))⟩
theorem comp39 : compile Try.prog Try.f39 = some code39 := by kernel_rfl
theorem okf39 : okFn Try.prog 39 = true := by kernel_rfl
-- 40: corebank/calendar.Prev$1
def code40 : FCode := ⟨2, [.tmp 3],
 (.seq (.q [(3, (.k (.b false)))])
 (.seq (.q [(3, (.op (.call false 19) [(.op (.ld 3 true) [(.sl 1)]), (.sl 0)]))])
 (.ret [3])))⟩
theorem comp40 : compile Try.prog Try.f40 = some code40 := by kernel_rfl
theorem okf40 : okFn Try.prog 40 = true := by kernel_rfl
-- 41: corebank/date.Valid
def code41 : FCode := ⟨1, [.tmp 2],
 (.seq (.q [(2, (.k (.b false)))])
 (.seq (.q [(2, (.ite (.op (.bin .geq) [(.sl 0), (.k (.i .i64 0))]) (.op (.bin .leq) [(.sl 0), (.k (.i .i64 73048))]) (.k (.b false))))])
 (.ret [2])))⟩
theorem comp41 : compile Try.prog Try.f41 = some code41 := by kernel_rfl
theorem okf41 : okFn Try.prog 41 = true := by kernel_rfl
-- 42: slices.Contains[[]int,int]
def code42 : FCode := ⟨2, [.tmp 4],
 (.seq (.q [(4, (.k (.b false)))])
 (.seq (.q [(4, (.op (.bin .geq) [(.op (.call false 56) [(.sl 0), (.sl 1)]), (.k (.i .i64 0))]))])
 (.ret [4])))⟩
theorem comp42 : compile Try.prog Try.f42 = some code42 := by kernel_rfl
theorem okf42 : okFn Try.prog 42 = true := by kernel_rfl
-- 43: corebank/date.Weekday
def code43 : FCode := ⟨1, [.tmp 2],
 (.seq (.q [(2, (.k (.i .i64 0)))])
 (.seq (.seq (.q [(5, (.op (.un .not) [(.op (.call false 41) [(.sl 0)])]))])
 (.cond (.sl 5) (.seq (.q [(2, (.k (.i .i64 (-1))))])
 (.ret [2])) .skip))
 (.seq (.q [(2, (.op (.bin .rem) [(.op (.bin .add) [(.sl 0), (.k (.i .i64 5))]), (.k (.i .i64 7))]))])
 (.ret [2]))))⟩
theorem comp43 : compile Try.prog Try.f43 = some code43 := by kernel_rfl
theorem okf43 : okFn Try.prog 43 = true := by kernel_rfl
-- 44: corebank/corebankref05.Has
def body44_1 : C :=
 (.seq (.seq (.q [(9, (.op (.bin .lss) [(.sl 5), (.op .len [(.sl 0)])]))])
 (.cond (.sl 9) .skip (.exit 0 [])))
 (.seq (.blk 1 (.seq (.q [(17, (.op (.bin .eql) [(.op (.ld 1 false) [(.op (.ix 1) [(.sl 0), (.sl 5)])]), (.sl 1)]))])
 (.cond (.sl 17) (.seq (.q [(4, (.k (.b true)))])
 (.ret [4])) .skip)))
 (.q [(5, (.op (.bin .add) [(.sl 5), (.k (.i .i64 1))]))])))
def code44 : FCode := ⟨2, [.tmp 4],
 (.seq (.q [(4, (.k (.b false)))])
 (.seq (.seq (.q [(5, (.k (.i .i64 0)))])
 (.blk 0 (.loop [0, 1, 5] body44_1)))
 (.seq (.q [(4, (.k (.b false)))])
 (.ret [4]))))⟩
theorem comp44 : compile Try.prog Try.f44 = some code44 := by kernel_rfl
theorem okf44 : okFn Try.prog 44 = true := by kernel_rfl
-- 45: corebank/corebankref04.Weekday
def code45 : FCode := ⟨1, [.tmp 2],
 (.seq (.q [(2, (.k (.i .i64 0)))])
 (.seq (.seq (.q [(5, (.op (.un .not) [(.op (.call false 27) [(.sl 0)])]))])
 (.cond (.sl 5) (.seq (.q [(2, (.k (.i .i64 (-1))))])
 (.ret [2])) .skip))
 (.seq (.q [(2, (.op (.bin .rem) [(.op (.bin .add) [(.sl 0), (.k (.i .i64 5))]), (.k (.i .i64 7))]))])
 (.ret [2]))))⟩
theorem comp45 : compile Try.prog Try.f45 = some code45 := by kernel_rfl
theorem okf45 : okFn Try.prog 45 = true := by kernel_rfl
-- 46: corebank/date.MonthEnd
def code46 : FCode := ⟨1, [.tmp 2],
 (.seq (.q [(2, (.k (.i .i64 0)))])
 (.seq (.seq (.q [(8, (.op (.un .not) [(.op (.call false 41) [(.sl 0)])]))])
 (.cond (.sl 8) (.seq (.q [(2, (.k (.i .i64 (-1))))])
 (.ret [2])) .skip))
 (.seq (.q [(3, (.op (.ext 0) [(.op (.call false 57) [(.sl 0)])])), (4, (.op (.ext 1) [(.op (.call false 57) [(.sl 0)])])), (5, (.op (.ext 2) [(.op (.call false 57) [(.sl 0)])]))])
 (.seq (.q [(2, (.op (.bin .add) [(.op (.bin .sub) [(.sl 0), (.sl 5)]), (.op (.call false 58) [(.sl 3), (.sl 4)])]))])
 (.ret [2])))))⟩
theorem comp46 : compile Try.prog Try.f46 = some code46 := by kernel_rfl
theorem okf46 : okFn Try.prog 46 = true := by kernel_rfl
-- 47: corebank/corebankref04.MonthEnd
def code47 : FCode := ⟨1, [.tmp 2],
 (.seq (.q [(2, (.k (.i .i64 0)))])
 (.seq (.seq (.q [(8, (.op (.un .not) [(.op (.call false 27) [(.sl 0)])]))])
 (.cond (.sl 8) (.seq (.q [(2, (.k (.i .i64 (-1))))])
 (.ret [2])) .skip))
 (.seq (.q [(3, (.op (.ext 0) [(.op (.call false 59) [(.sl 0)])])), (4, (.op (.ext 1) [(.op (.call false 59) [(.sl 0)])])), (5, (.op (.ext 2) [(.op (.call false 59) [(.sl 0)])]))])
 (.seq (.q [(2, (.op (.bin .sub) [(.op (.bin .add) [(.sl 0), (.op (.call false 60) [(.sl 3), (.sl 4)])]), (.sl 5)]))])
 (.ret [2])))))⟩
theorem comp47 : compile Try.prog Try.f47 = some code47 := by kernel_rfl
theorem okf47 : okFn Try.prog 47 = true := by kernel_rfl
-- 48: corebank/calendar.union
def code48 : FCode := ⟨2, [.tmp 4],
 (.seq (.s [.as 4 (.c (.ow 3 []))] [])
 (.seq (.s [.mv 6 (.t 0), .mv 7 (.t 1), .bsl 8 22 1 [(.t 6), (.t 7)], .call (some 9) 61 [(.t 8)], .as 5 (.t 9)] [6, 7, 8, 9])
 (.seq (.s [.mv 10 (.t 5), .callm (some 11) 62 (mutOf 62) (.t 10) []] [10, 11])
 (.seq (.s [.mv 12 (.t 5), .callm (some 13) 63 (mutOf 63) (.t 12) [], .as 4 (.t 13)] [12, 13])
 (.ret [4])))))⟩
theorem comp48 : compile Try.prog Try.f48 = some code48 := by kernel_rfl
theorem okf48 : okFn Try.prog 48 = true := by kernel_rfl
-- 49: corebank/corebankref05.Ints
def body49_1 : C :=
 (.seq (.seq (.q [(14, (.op (.bin .lss) [(.sl 5), (.op .len [(.sl 0)])]))])
 (.cond (.sl 14) .skip (.exit 0 [])))
 (.seq (.blk 1 (.seq (.q [(25, (.op (.bin .neq) [(.op (.ld 1 false) [(.op (.ix 1) [(.sl 0), (.sl 5)])]), (.op (.ld 1 false) [(.op (.ix 1) [(.sl 1), (.sl 5)])])]))])
 (.cond (.sl 25) (.seq (.q [(4, (.k (.b false)))])
 (.ret [4])) .skip)))
 (.q [(5, (.op (.bin .add) [(.sl 5), (.k (.i .i64 1))]))])))
def code49 : FCode := ⟨2, [.tmp 4],
 (.seq (.q [(4, (.k (.b false)))])
 (.seq (.seq (.q [(10, (.op (.bin .neq) [(.op .len [(.sl 0)]), (.op .len [(.sl 1)])]))])
 (.cond (.sl 10) (.seq (.q [(4, (.k (.b false)))])
 (.ret [4])) .skip))
 (.seq (.seq (.q [(5, (.k (.i .i64 0)))])
 (.blk 0 (.loop [0, 1, 5] body49_1)))
 (.seq (.q [(4, (.k (.b true)))])
 (.ret [4])))))⟩
theorem comp49 : compile Try.prog Try.f49 = some code49 := by kernel_rfl
theorem okf49 : okFn Try.prog 49 = true := by kernel_rfl
-- 50: corebank/corebankref05.join
def body50_1 : C :=
 (.seq (.seq (.q [(23, (.op (.bin .lss) [(.sl 8), (.op .len [(.sl 5)])]))])
 (.cond (.sl 23) .skip (.exit 2 [5, 6, 7])))
 (.seq (.blk 3 (.seq (.q [(56, (.ite (.ite (.op (.bin .eql) [(.op .len [(.sl 6)]), (.k (.i .i64 0))]) (.k (.b true)) (.op (.bin .gtr) [(.op (.ld 1 false) [(.op (.ix 1) [(.sl 5), (.sl 8)])]), (.op (.ld 1 false) [(.op (.ix 1) [(.sl 6), (.op (.bin .sub) [(.op .len [(.sl 6)]), (.k (.i .i64 1))])])])])) (.ite (.op (.bin .lss) [(.sl 7), (.k (.i .i64 0))]) (.k (.b true)) (.op (.bin .lss) [(.op (.ld 1 false) [(.op (.ix 1) [(.sl 5), (.sl 8)])]), (.op (.ld 1 false) [(.op (.ix 1) [(.sl 5), (.sl 7)])])])) (.k (.b false))))])
 (.cond (.sl 56) (.q [(7, (.sl 8))]) .skip)))
 (.q [(8, (.op (.bin .add) [(.sl 8), (.k (.i .i64 1))]))])))
def body50_2 : C :=
 (.seq (.seq (.q [(19, (.op (.bin .lss) [(.op .len [(.sl 6)]), (.op .len [(.sl 5)])]))])
 (.cond (.sl 19) .skip (.exit 0 [6])))
 (.blk 1 (.seq (.q [(7, (.k (.i .i64 (-1))))])
 (.seq (.seq (.q [(8, (.k (.i .i64 0)))])
 (.blk 2 (.loop [5, 6, 7, 8] body50_1)))
 (.seq (.seq (.q [(59, (.op (.bin .lss) [(.sl 7), (.k (.i .i64 0))]))])
 (.cond (.sl 59) (.seq (.s [.mv 60 (.t 6), .as 4 (.t 60)] [60])
 (.ret [4])) .skip))
 (.s [.mv 61 (.t 6), .mv 62 (.t 5), .mv 63 (.t 7), .ix 64 1 (.t 62) (.t 63), .q 65 (.ld 1 false) [(.t 64)], .bsl 66 3 1 [(.t 65)], .app 67 3 1 8 (.t 61) (.t 66), .as 6 (.t 67)] [61, 62, 63, 64, 65, 66, 67]))))))
def code50 : FCode := ⟨2, [.tmp 4],
 (.seq (.s [.as 4 (.c (.ow 3 []))] [])
 (.seq (.s [.bsl 9 3 1 [], .mv 10 (.t 0), .app 11 3 1 8 (.t 9) (.t 10), .mv 12 (.t 1), .app 13 3 1 8 (.t 11) (.t 12), .as 5 (.t 13)] [9, 10, 11, 12, 13])
 (.seq (.s [.bsl 14 3 1 [], .as 6 (.t 14)] [14])
 (.seq (.blk 0 (.loop [5, 6] body50_2))
 (.seq (.s [.mv 68 (.t 6), .as 4 (.t 68)] [68])
 (.ret [4]))))))⟩
theorem comp50 : compile Try.prog Try.f50 = some code50 := by kernel_rfl
theorem okf50 : okFn Try.prog 50 = true := by kernel_rfl
-- 51: slices.IndexFunc[[]corebank/api.Calendar,corebank/api.Calendar]
def body51_1 : C :=
 (.seq (.q [(9, (.op (.bin .lss) [(.sl 8), (.sl 7)]))])
 (.seq (.cond (.sl 9) .skip (.exit 0 []))
 (.seq (.blk 1 (.seq (.q [(5, (.sl 8))])
 (.seq (.q [(16, (.op (.callv false) [(.sl 1), (.op (.ld 3 true) [(.op (.ix 3) [(.sl 0), (.sl 5)])])]))])
 (.cond (.sl 16) (.seq (.q [(4, (.sl 5))])
 (.ret [4])) .skip))))
 (.q [(8, (.op (.bin .add) [(.sl 8), (.k (.i .i64 1))]))]))))
def code51 : FCode := ⟨2, [.tmp 4],
 (.seq (.q [(4, (.k (.i .i64 0)))])
 (.seq (.seq (.q [(7, (.op .len [(.sl 0)])), (8, (.k (.i .i64 0)))])
 (.blk 0 (.loop [0, 1, 7, 8] body51_1)))
 (.seq (.q [(4, (.k (.i .i64 (-1))))])
 (.ret [4]))))⟩
theorem comp51 : compile Try.prog Try.f51 = some code51 := by kernel_rfl
theorem okf51 : okFn Try.prog 51 = true := by kernel_rfl
-- 52: corebank/calendar.Find$1
def code52 : FCode := ⟨2, [.tmp 3],
 (.seq (.s [.box 2 (.t 0), .as 3 (.c (.b false))] [])
 (.seq (.q [(3, (.op (.bin .eql) [(.op (.ld 1 false) [(.op (.fa 0 1) [(.sl 2)])]), (.op (.ld 1 false) [(.sl 1)])]))])
 (.ret [3])))⟩
theorem comp52 : compile Try.prog Try.f52 = some code52 := by kernel_rfl
theorem okf52 : okFn Try.prog 52 = true := by kernel_rfl
-- 54: slices.ContainsFunc[[]int,int]
def code54 : FCode := ⟨2, [.tmp 4],
 (.seq (.q [(4, (.k (.b false)))])
 (.seq (.q [(4, (.op (.bin .geq) [(.op (.call false 64) [(.sl 0), (.sl 1)]), (.k (.i .i64 0))]))])
 (.ret [4])))⟩
theorem comp54 : compile Try.prog Try.f54 = some code54 := by kernel_rfl
theorem okf54 : okFn Try.prog 54 = true := by kernel_rfl
-- 55: corebank/calendar.within$1
def code55 : FCode := ⟨3, [.tmp 4],
 (.seq (.q [(4, (.k (.b false)))])
 (.seq (.q [(4, (.ite (.op (.bin .lss) [(.sl 0), (.op (.ld 1 false) [(.sl 1)])]) (.k (.b true)) (.op (.bin .gtr) [(.sl 0), (.op (.ld 1 false) [(.sl 2)])])))])
 (.ret [4])))⟩
theorem comp55 : compile Try.prog Try.f55 = some code55 := by kernel_rfl
theorem okf55 : okFn Try.prog 55 = true := by kernel_rfl
-- 56: slices.Index[[]int,int]
def body56_1 : C :=
 (.seq (.q [(9, (.op (.bin .lss) [(.sl 8), (.sl 7)]))])
 (.seq (.cond (.sl 9) .skip (.exit 0 []))
 (.seq (.blk 1 (.seq (.q [(5, (.sl 8))])
 (.seq (.q [(16, (.op (.bin .eql) [(.sl 1), (.op (.ld 1 false) [(.op (.ix 1) [(.sl 0), (.sl 5)])])]))])
 (.cond (.sl 16) (.seq (.q [(4, (.sl 5))])
 (.ret [4])) .skip))))
 (.q [(8, (.op (.bin .add) [(.sl 8), (.k (.i .i64 1))]))]))))
def code56 : FCode := ⟨2, [.tmp 4],
 (.seq (.q [(4, (.k (.i .i64 0)))])
 (.seq (.seq (.q [(7, (.op .len [(.sl 0)])), (8, (.k (.i .i64 0)))])
 (.blk 0 (.loop [0, 1, 7, 8] body56_1)))
 (.seq (.q [(4, (.k (.i .i64 (-1))))])
 (.ret [4]))))⟩
theorem comp56 : compile Try.prog Try.f56 = some code56 := by kernel_rfl
theorem okf56 : okFn Try.prog 56 = true := by kernel_rfl
-- 57: corebank/date.Civil
def body57_1 : C :=
 (.seq (.seq (.q [(17, (.op (.bin .leq) [(.op (.call false 65) [(.op (.bin .add) [(.sl 5), (.k (.i .i64 1))])]), (.sl 0)]))])
 (.cond (.sl 17) .skip (.exit 0 [0, 5])))
 (.blk 1 (.q [(5, (.op (.bin .add) [(.sl 5), (.k (.i .i64 1))]))])))
def body57_2 : C :=
 (.seq (.seq (.q [(28, (.op (.bin .geq) [(.sl 0), (.op (.call false 58) [(.sl 5), (.sl 6)])]))])
 (.cond (.sl 28) .skip (.exit 2 [0, 5, 6])))
 (.blk 3 (.seq (.q [(0, (.op (.bin .sub) [(.sl 0), (.op (.call false 58) [(.sl 5), (.sl 6)])]))])
 (.q [(6, (.op (.bin .add) [(.sl 6), (.k (.i .i64 1))]))]))))
def code57 : FCode := ⟨1, [.tmp 2, .tmp 3, .tmp 4],
 (.seq (.q [(2, (.k (.i .i64 0))), (3, (.k (.i .i64 0))), (4, (.k (.i .i64 0)))])
 (.seq (.seq (.q [(9, (.op (.un .not) [(.op (.call false 41) [(.sl 0)])]))])
 (.cond (.sl 9) (.seq (.q [(2, (.k (.i .i64 0))), (3, (.k (.i .i64 0))), (4, (.k (.i .i64 0)))])
 (.ret [2, 3, 4])) .skip))
 (.seq (.q [(5, (.op (.bin .add) [(.k (.i .i64 2000)), (.op (.bin .quo) [(.sl 0), (.k (.i .i64 366))])]))])
 (.seq (.blk 0 (.loop [0, 5] body57_1))
 (.seq (.q [(0, (.op (.bin .sub) [(.sl 0), (.op (.call false 65) [(.sl 5)])]))])
 (.seq (.q [(6, (.k (.i .i64 1)))])
 (.seq (.blk 2 (.loop [0, 5, 6] body57_2))
 (.seq (.q [(2, (.sl 5)), (3, (.sl 6)), (4, (.op (.bin .add) [(.sl 0), (.k (.i .i64 1))]))])
 (.ret [2, 3, 4])))))))))⟩
theorem comp57 : compile Try.prog Try.f57 = some code57 := by kernel_rfl
theorem okf57 : okFn Try.prog 57 = true := by kernel_rfl
-- 58: corebank/date.length
def code58 : FCode := ⟨2, [.tmp 4],
 (.seq (.q [(4, (.k (.i .i64 0)))])
 (.seq (.s [.bld 6 [(.i .i64 0), (.i .i64 0), (.i .i64 0), (.i .i64 0), (.i .i64 0), (.i .i64 0), (.i .i64 0), (.i .i64 0), (.i .i64 0), (.i .i64 0), (.i .i64 0), (.i .i64 0), (.i .i64 0)] [(0, 1), (1, 1), (2, 1), (3, 1), (4, 1), (5, 1), (6, 1), (7, 1), (8, 1), (9, 1), (10, 1), (11, 1), (12, 1)] [(.c (.i .i64 0)), (.c (.i .i64 31)), (.c (.i .i64 28)), (.c (.i .i64 31)), (.c (.i .i64 30)), (.c (.i .i64 31)), (.c (.i .i64 30)), (.c (.i .i64 31)), (.c (.i .i64 31)), (.c (.i .i64 30)), (.c (.i .i64 31)), (.c (.i .i64 30)), (.c (.i .i64 31))], .alo 5 [(.i .i64 0), (.i .i64 0), (.i .i64 0), (.i .i64 0), (.i .i64 0), (.i .i64 0), (.i .i64 0), (.i .i64 0), (.i .i64 0), (.i .i64 0), (.i .i64 0), (.i .i64 0), (.i .i64 0)], .sto 13 (.t 5) (.t 6)] [6])
 (.seq (.seq (.q [(12, (.ite (.op (.bin .eql) [(.sl 1), (.k (.i .i64 2))]) (.op (.call false 66) [(.sl 0)]) (.k (.b false))))])
 (.cond (.sl 12) (.seq (.q [(4, (.k (.i .i64 29)))])
 (.ret [4])) .skip))
 (.seq (.q [(4, (.op (.ld 1 false) [(.op (.pix 13 1) [(.sl 5), (.sl 1)])]))])
 (.ret [4])))))⟩
theorem comp58 : compile Try.prog Try.f58 = some code58 := by kernel_rfl
theorem okf58 : okFn Try.prog 58 = true := by kernel_rfl
-- 59: corebank/corebankref04.Civil
def body59_1 : C :=
 (.seq (.seq (.q [(13, (.op (.bin .geq) [(.sl 0), (.op (.call false 67) [(.sl 5)])]))])
 (.cond (.sl 13) .skip (.exit 0 [0, 5, 6])))
 (.blk 1 (.seq (.q [(0, (.op (.bin .sub) [(.sl 0), (.op (.call false 67) [(.sl 5)])]))])
 (.q [(5, (.op (.bin .add) [(.sl 5), (.k (.i .i64 1))]))]))))
def body59_2 : C :=
 (.seq (.seq (.q [(24, (.op (.bin .geq) [(.sl 0), (.op (.call false 60) [(.sl 5), (.sl 6)])]))])
 (.cond (.sl 24) .skip (.exit 2 [0, 5, 6])))
 (.blk 3 (.seq (.q [(0, (.op (.bin .sub) [(.sl 0), (.op (.call false 60) [(.sl 5), (.sl 6)])]))])
 (.q [(6, (.op (.bin .add) [(.sl 6), (.k (.i .i64 1))]))]))))
def code59 : FCode := ⟨1, [.tmp 2, .tmp 3, .tmp 4],
 (.seq (.q [(2, (.k (.i .i64 0))), (3, (.k (.i .i64 0))), (4, (.k (.i .i64 0)))])
 (.seq (.seq (.q [(9, (.op (.un .not) [(.op (.call false 27) [(.sl 0)])]))])
 (.cond (.sl 9) (.seq (.q [(2, (.k (.i .i64 0))), (3, (.k (.i .i64 0))), (4, (.k (.i .i64 0)))])
 (.ret [2, 3, 4])) .skip))
 (.seq (.q [(5, (.k (.i .i64 2000))), (6, (.k (.i .i64 1)))])
 (.seq (.blk 0 (.loop [0, 5, 6] body59_1))
 (.seq (.blk 2 (.loop [0, 5, 6] body59_2))
 (.seq (.q [(2, (.sl 5)), (3, (.sl 6)), (4, (.op (.bin .add) [(.sl 0), (.k (.i .i64 1))]))])
 (.ret [2, 3, 4])))))))⟩
theorem comp59 : compile Try.prog Try.f59 = some code59 := by kernel_rfl
theorem okf59 : okFn Try.prog 59 = true := by kernel_rfl
-- 60: corebank/corebankref04.Length
def code60 : FCode := ⟨2, [.tmp 4],
 (.seq (.q [(4, (.k (.i .i64 0)))])
 (.seq (.seq (.q [(5, (.sl 1))])
 (.blk 0 (.seq (.seq (.q [(6, (.op (.bin .eql) [(.sl 5), (.k (.i .i64 1))]))])
 (.cond (.sl 6) .skip (.seq (.q [(6, (.op (.bin .eql) [(.sl 5), (.k (.i .i64 3))]))])
 (.cond (.sl 6) .skip (.seq (.q [(6, (.op (.bin .eql) [(.sl 5), (.k (.i .i64 5))]))])
 (.cond (.sl 6) .skip (.seq (.q [(6, (.op (.bin .eql) [(.sl 5), (.k (.i .i64 7))]))])
 (.cond (.sl 6) .skip (.seq (.q [(6, (.op (.bin .eql) [(.sl 5), (.k (.i .i64 8))]))])
 (.cond (.sl 6) .skip (.seq (.q [(6, (.op (.bin .eql) [(.sl 5), (.k (.i .i64 10))]))])
 (.cond (.sl 6) .skip (.q [(6, (.op (.bin .eql) [(.sl 5), (.k (.i .i64 12))]))])))))))))))))
 (.cond (.sl 6) (.seq (.q [(4, (.k (.i .i64 31)))])
 (.ret [4])) (.seq (.seq (.q [(14, (.op (.bin .eql) [(.sl 5), (.k (.i .i64 4))]))])
 (.cond (.sl 14) .skip (.seq (.q [(14, (.op (.bin .eql) [(.sl 5), (.k (.i .i64 6))]))])
 (.cond (.sl 14) .skip (.seq (.q [(14, (.op (.bin .eql) [(.sl 5), (.k (.i .i64 9))]))])
 (.cond (.sl 14) .skip (.q [(14, (.op (.bin .eql) [(.sl 5), (.k (.i .i64 11))]))])))))))
 (.cond (.sl 14) (.seq (.q [(4, (.k (.i .i64 30)))])
 (.ret [4])) (.seq (.q [(19, (.op (.bin .eql) [(.sl 5), (.k (.i .i64 2))]))])
 (.cond (.sl 19) (.seq (.seq (.q [(22, (.op (.call false 68) [(.sl 0)]))])
 (.cond (.sl 22) (.seq (.q [(4, (.k (.i .i64 29)))])
 (.ret [4])) .skip))
 (.seq (.q [(4, (.k (.i .i64 28)))])
 (.ret [4]))) .skip))))))))
 (.seq (.q [(4, (.k (.i .i64 0)))])
 (.ret [4]))))⟩
theorem comp60 : compile Try.prog Try.f60 = some code60 := by kernel_rfl
theorem okf60 : okFn Try.prog 60 = true := by kernel_rfl
-- 61: slices.Concat[[]int,int]
def body61_1 : C :=
 (.seq (.q [(12, (.op (.bin .lss) [(.sl 11), (.sl 10)]))])
 (.seq (.cond (.sl 12) .skip (.exit 0 [0, 3]))
 (.seq (.blk 1 (.seq (.s [.ix 13 1 (.t 9) (.t 11), .q 14 (.ld 1 false) [(.t 13)], .as 5 (.t 14)] [13, 14])
 (.seq (.q [(3, (.op (.bin .add) [(.sl 3), (.op .len [(.sl 5)])]))])
 (.seq (.q [(20, (.op (.bin .lss) [(.sl 3), (.k (.i .i64 0))]))])
 (.cond (.sl 20) (.q [(0, (.op .mv []))]) .skip)))))
 (.q [(11, (.op (.bin .add) [(.sl 11), (.k (.i .i64 1))]))]))))
def body61_2 : C :=
 (.seq (.q [(28, (.op (.bin .lss) [(.sl 27), (.sl 26)]))])
 (.seq (.cond (.sl 28) .skip (.exit 2 [6]))
 (.seq (.blk 3 (.seq (.s [.ix 29 1 (.t 25) (.t 27), .q 30 (.ld 1 false) [(.t 29)], .as 8 (.t 30)] [29, 30])
 (.s [.mv 31 (.t 6), .mv 32 (.t 8), .app 33 3 1 8 (.t 31) (.t 32), .as 6 (.t 33)] [31, 32, 33])))
 (.q [(27, (.op (.bin .add) [(.sl 27), (.k (.i .i64 1))]))]))))
def code61 : FCode := ⟨1, [.tmp 2],
 (.seq (.s [.as 2 (.c (.ow 3 []))] [])
 (.seq (.q [(3, (.k (.i .i64 0)))])
 (.seq (.seq (.s [.mv 9 (.t 0), .q 10 .len [(.t 9)], .mv 11 (.c (.i .i64 0))] [])
 (.blk 0 (.loop [0, 3, 9, 10, 11] body61_1)))
 (.seq (.s [.mv 23 (.t 3), .callm (some 24) 69 (mutOf 69) (.c (.l [])) [(.t 23)], .as 6 (.t 24)] [23, 24])
 (.seq (.seq (.s [.mv 25 (.t 0), .q 26 .len [(.t 25)], .mv 27 (.c (.i .i64 0))] [])
 (.blk 2 (.loop [6, 25, 26, 27] body61_2)))
 (.seq (.s [.mv 35 (.t 6), .as 2 (.t 35)] [35])
 (.ret [2])))))))⟩
theorem comp61 : compile Try.prog Try.f61 = some code61 := by kernel_rfl
theorem okf61 : okFn Try.prog 61 = true := by kernel_rfl
-- 64: slices.IndexFunc[[]int,int]
def body64_1 : C :=
 (.seq (.q [(9, (.op (.bin .lss) [(.sl 8), (.sl 7)]))])
 (.seq (.cond (.sl 9) .skip (.exit 0 []))
 (.seq (.blk 1 (.seq (.q [(5, (.sl 8))])
 (.seq (.q [(16, (.op (.callv false) [(.sl 1), (.op (.ld 1 false) [(.op (.ix 1) [(.sl 0), (.sl 5)])])]))])
 (.cond (.sl 16) (.seq (.q [(4, (.sl 5))])
 (.ret [4])) .skip))))
 (.q [(8, (.op (.bin .add) [(.sl 8), (.k (.i .i64 1))]))]))))
def code64 : FCode := ⟨2, [.tmp 4],
 (.seq (.q [(4, (.k (.i .i64 0)))])
 (.seq (.seq (.q [(7, (.op .len [(.sl 0)])), (8, (.k (.i .i64 0)))])
 (.blk 0 (.loop [0, 1, 7, 8] body64_1)))
 (.seq (.q [(4, (.k (.i .i64 (-1))))])
 (.ret [4]))))⟩
theorem comp64 : compile Try.prog Try.f64 = some code64 := by kernel_rfl
theorem okf64 : okFn Try.prog 64 = true := by kernel_rfl
-- 65: corebank/date.begin
def code65 : FCode := ⟨1, [.tmp 2],
 (.seq (.q [(2, (.k (.i .i64 0)))])
 (.seq (.q [(3, (.op (.bin .sub) [(.sl 0), (.k (.i .i64 2000))]))])
 (.seq (.q [(4, (.op (.bin .quo) [(.op (.bin .add) [(.sl 3), (.k (.i .i64 3))]), (.k (.i .i64 4))]))])
 (.seq (.seq (.q [(11, (.op (.bin .gtr) [(.sl 0), (.k (.i .i64 2100))]))])
 (.cond (.sl 11) (.q [(4, (.op (.bin .sub) [(.sl 4), (.k (.i .i64 1))]))]) .skip))
 (.seq (.q [(2, (.op (.bin .add) [(.op (.bin .mul) [(.k (.i .i64 365)), (.sl 3)]), (.sl 4)]))])
 (.ret [2]))))))⟩
theorem comp65 : compile Try.prog Try.f65 = some code65 := by kernel_rfl
theorem okf65 : okFn Try.prog 65 = true := by kernel_rfl
-- 66: corebank/date.Leap
def code66 : FCode := ⟨1, [.tmp 2],
 (.seq (.q [(2, (.k (.b false)))])
 (.seq (.q [(2, (.ite (.op (.bin .eql) [(.op (.bin .rem) [(.sl 0), (.k (.i .i64 4))]), (.k (.i .i64 0))]) (.ite (.op (.bin .neq) [(.op (.bin .rem) [(.sl 0), (.k (.i .i64 100))]), (.k (.i .i64 0))]) (.k (.b true)) (.op (.bin .eql) [(.op (.bin .rem) [(.sl 0), (.k (.i .i64 400))]), (.k (.i .i64 0))])) (.k (.b false))))])
 (.ret [2])))⟩
theorem comp66 : compile Try.prog Try.f66 = some code66 := by kernel_rfl
theorem okf66 : okFn Try.prog 66 = true := by kernel_rfl
-- 67: corebank/corebankref04.yearLength
def code67 : FCode := ⟨1, [.tmp 2],
 (.seq (.q [(2, (.k (.i .i64 0)))])
 (.seq (.seq (.q [(4, (.op (.call false 68) [(.sl 0)]))])
 (.cond (.sl 4) (.seq (.q [(2, (.k (.i .i64 366)))])
 (.ret [2])) .skip))
 (.seq (.q [(2, (.k (.i .i64 365)))])
 (.ret [2]))))⟩
theorem comp67 : compile Try.prog Try.f67 = some code67 := by kernel_rfl
theorem okf67 : okFn Try.prog 67 = true := by kernel_rfl
-- 68: corebank/corebankref04.Leap
def code68 : FCode := ⟨1, [.tmp 2],
 (.seq (.q [(2, (.k (.b false)))])
 (.seq (.q [(2, (.ite (.op (.bin .eql) [(.op (.bin .rem) [(.sl 0), (.k (.i .i64 4))]), (.k (.i .i64 0))]) (.ite (.op (.bin .neq) [(.op (.bin .rem) [(.sl 0), (.k (.i .i64 100))]), (.k (.i .i64 0))]) (.k (.b true)) (.op (.bin .eql) [(.op (.bin .rem) [(.sl 0), (.k (.i .i64 400))]), (.k (.i .i64 0))])) (.k (.b false))))])
 (.ret [2])))⟩
theorem comp68 : compile Try.prog Try.f68 = some code68 := by kernel_rfl
theorem okf68 : okFn Try.prog 68 = true := by kernel_rfl
/-- All of them. -/
def codes : List (Nat × FCode) := [(2, code2), (3, code3), (4, code4), (5, code5), (6, code6), (7, code7), (8, code8), (9, code9), (10, code10), (11, code11), (12, code12), (13, code13), (14, code14), (15, code15), (16, code16), (17, code17), (18, code18), (19, code19), (20, code20), (21, code21), (22, code22), (23, code23), (24, code24), (25, code25), (26, code26), (27, code27), (28, code28), (29, code29), (30, code30), (31, code31), (32, code32), (33, code33), (34, code34), (35, code35), (36, code36), (37, code37), (38, code38), (39, code39), (40, code40), (41, code41), (42, code42), (43, code43), (44, code44), (45, code45), (46, code46), (47, code47), (48, code48), (49, code49), (50, code50), (51, code51), (52, code52), (54, code54), (55, code55), (56, code56), (57, code57), (58, code58), (59, code59), (60, code60), (61, code61), (64, code64), (65, code65), (66, code66), (67, code67), (68, code68)]
def tab : Nat → Option FCode := tabOf codes
theorem codes_ok : ∀ p ∈ codes, ∃ fn, Try.prog.funcs[p.1]? = some fn ∧ compile Try.prog fn = some p.2 ∧ okFn Try.prog p.1 = true := by
  unfold codes
  simp only [List.forall_mem_cons]
  exact ⟨⟨_, Try.func2, comp2, okf2⟩, ⟨_, Try.func3, comp3, okf3⟩, ⟨_, Try.func4, comp4, okf4⟩, ⟨_, Try.func5, comp5, okf5⟩, ⟨_, Try.func6, comp6, okf6⟩, ⟨_, Try.func7, comp7, okf7⟩, ⟨_, Try.func8, comp8, okf8⟩, ⟨_, Try.func9, comp9, okf9⟩, ⟨_, Try.func10, comp10, okf10⟩, ⟨_, Try.func11, comp11, okf11⟩, ⟨_, Try.func12, comp12, okf12⟩, ⟨_, Try.func13, comp13, okf13⟩, ⟨_, Try.func14, comp14, okf14⟩, ⟨_, Try.func15, comp15, okf15⟩, ⟨_, Try.func16, comp16, okf16⟩, ⟨_, Try.func17, comp17, okf17⟩, ⟨_, Try.func18, comp18, okf18⟩, ⟨_, Try.func19, comp19, okf19⟩, ⟨_, Try.func20, comp20, okf20⟩, ⟨_, Try.func21, comp21, okf21⟩, ⟨_, Try.func22, comp22, okf22⟩, ⟨_, Try.func23, comp23, okf23⟩, ⟨_, Try.func24, comp24, okf24⟩, ⟨_, Try.func25, comp25, okf25⟩, ⟨_, Try.func26, comp26, okf26⟩, ⟨_, Try.func27, comp27, okf27⟩, ⟨_, Try.func28, comp28, okf28⟩, ⟨_, Try.func29, comp29, okf29⟩, ⟨_, Try.func30, comp30, okf30⟩, ⟨_, Try.func31, comp31, okf31⟩, ⟨_, Try.func32, comp32, okf32⟩, ⟨_, Try.func33, comp33, okf33⟩, ⟨_, Try.func34, comp34, okf34⟩, ⟨_, Try.func35, comp35, okf35⟩, ⟨_, Try.func36, comp36, okf36⟩, ⟨_, Try.func37, comp37, okf37⟩, ⟨_, Try.func38, comp38, okf38⟩, ⟨_, Try.func39, comp39, okf39⟩, ⟨_, Try.func40, comp40, okf40⟩, ⟨_, Try.func41, comp41, okf41⟩, ⟨_, Try.func42, comp42, okf42⟩, ⟨_, Try.func43, comp43, okf43⟩, ⟨_, Try.func44, comp44, okf44⟩, ⟨_, Try.func45, comp45, okf45⟩, ⟨_, Try.func46, comp46, okf46⟩, ⟨_, Try.func47, comp47, okf47⟩, ⟨_, Try.func48, comp48, okf48⟩, ⟨_, Try.func49, comp49, okf49⟩, ⟨_, Try.func50, comp50, okf50⟩, ⟨_, Try.func51, comp51, okf51⟩, ⟨_, Try.func52, comp52, okf52⟩, ⟨_, Try.func54, comp54, okf54⟩, ⟨_, Try.func55, comp55, okf55⟩, ⟨_, Try.func56, comp56, okf56⟩, ⟨_, Try.func57, comp57, okf57⟩, ⟨_, Try.func58, comp58, okf58⟩, ⟨_, Try.func59, comp59, okf59⟩, ⟨_, Try.func60, comp60, okf60⟩, ⟨_, Try.func61, comp61, okf61⟩, ⟨_, Try.func64, comp64, okf64⟩, ⟨_, Try.func65, comp65, okf65⟩, ⟨_, Try.func66, comp66, okf66⟩, ⟨_, Try.func67, comp67, okf67⟩, ⟨_, Try.func68, comp68, okf68⟩, fun _ h => by cases h⟩
end Go.Proofs.Ytmhodpnjhkokoaa
