/-
  The code of the functions that ask and turn the maps: printed by a program of ours off the translation, and held against it by the kernel.
-/
import Derived.Test.YtmhpmghhgppdnaaTypes
import Derived.Test.YtmhpmghhgppdnaaVmW
import Derived.KernelRfl
namespace Go.Proofs.Ytmhpmghhgppdnaa
open Go.VM
-- 41: (*corebank/reconcile.table).take
def n41_1 : C :=
 (.q [(6, (.k (.i .i64 0))), (7, (.k (.b false)))])
def n41_2 : C :=
 (.s [.mv 10 (.t 1), .q 11 .len [(.t 10)], .mv 12 (.c (.i .i64 0))] [])
def n41_3 : C :=
 (.q [(13, (.op (.bin .lss) [(.sl 12), (.sl 11)]))])
def n41_4 : C :=
 (.cond (.sl 13) .skip (.exit 0 []))
def n41_5 : C :=
 (.q [(9, (.op (.ld 1 false) [(.op (.ix 1) [(.sl 10), (.sl 12)])]))])
def n41_6 : List RSt :=
 [.g (.s (.mv 16 (.t 0))), .ef (some 17) NILC [(.t 16)], .g (.s (.fa 18 3 1 (.t 17))), .g (.s (.q 19 (.ld 1 false) [(.t 18)])), .g (.s (.mv 20 (.t 9))), .ef (some 21) LOOK [(.c (.i .i64 52)), (.t 19), (.t 20)], .g (.s (.q 22 (.un .not) [(.t 21)])), .g (.s (.mv 23 (.t 22))), .g (.gd 23 true (some 24) (.mv 24 (.t 2))), .g (.gd 23 true (some 25) (.mv 25 (.t 0))), .gef 23 true (some 26) NILC [(.t 25)], .g (.gd 23 true (some 27) (.fa 27 0 1 (.t 26))), .g (.gd 23 true (some 28) (.q 28 (.ld 1 false) [(.t 27)])), .g (.gd 23 true (some 29) (.mv 29 (.t 9))), .g (.gd 23 true (some 30) (.ix 30 3 (.t 28) (.t 29))), .g (.gd 23 true (some 31) (.q 31 (.ld 3 true) [(.t 30)])), .g (.gd 23 true (some 32) (.callv (some 32) [(.t 24), (.t 31)])), .g (.pick 33 23 (.t 32) (.c (.b false)))]
def n41_7 : List RSt :=
 [.g (.s (.mv 34 (.t 0))), .ef (some 35) NILC [(.t 34)], .g (.s (.fa 36 3 1 (.t 35))), .g (.s (.q 37 (.ld 1 false) [(.t 36)])), .g (.s (.mv 38 (.t 9))), .ef none UPD [(.c (.i .i64 52)), (.t 37), (.t 38), (.c (.b true))]]
def n41_8 : C :=
 (.seq (.q [(6, (.sl 9)), (7, (.k (.b true)))])
 (.ret [6, 7]))
def n41_9 : C :=
 .skip
def n41_10 : C :=
 (.q [(12, (.op (.bin .add) [(.sl 12), (.k (.i .i64 1))]))])
abbrev n41_11 : NG :=
 (.seq (.c n41_3)
 (.seq (.c n41_4)
 (.seq (.blk 1 (.seq (.c n41_5)
 (.seq (.lin n41_6 [16, 17, 18, 19, 20, 21, 22, 23, 24, 25, 26, 27, 28, 29, 30, 31, 32])
 (.cond (.sl 33) (.seq (.lin n41_7 [34, 35, 36, 37, 38])
 (.c n41_8)) (.c n41_9)))))
 (.c n41_10))))
def n41_12 : C :=
 (.seq (.q [(6, (.k (.i .i64 0))), (7, (.k (.b false)))])
 (.ret [6, 7]))
def code41 : GCode := ⟨3, [.tmp 6, .tmp 7],
 (.seq (.c n41_1)
 (.seq (.seq (.c n41_2)
 (.blk 0 (.loop [0, 2, 10, 11, 12] n41_11)))
 (.c n41_12)))⟩
theorem comp41 : compileG Try.prog false (.seq .c (.seq (.seq .c (.blk (.loop (.seq .c (.seq .c (.seq (.blk (.seq .c (.seq (.lin []) (.cond (.seq (.lin []) .c) .c)))) .c)))))) .c)) Try.f41 = some code41 := by kernel_rfl
theorem okf41 : okFn Try.prog 41 = true := by kernel_rfl
-- 29: (*corebank/reconcile.table).match
def n29_1 : C :=
 (.s [.box 4 (.t 1), .as 6 (.c (.i .i64 0)), .as 7 (.c (.b false))] [])
def n29_2 : C :=
 (.q [(8, (.sl 2))])
def n29_3 : C :=
 (.q [(9, (.op (.bin .eql) [(.sl 8), (.k (.i .i64 1))]))])
def n29_4 : List RSt :=
 [.g (.s (.mv 11 (.t 0))), .g (.s (.mv 12 (.t 0))), .ef (some 13) NILC [(.t 12)], .g (.s (.fa 14 1 1 (.t 13))), .g (.s (.q 15 (.ld 1 false) [(.t 14)])), .g (.s (.fa 16 0 1 (.t 4))), .g (.s (.q 17 (.ld 1 false) [(.t 16)])), .ef (some 18) LOOK [(.c (.i .i64 58)), (.t 15), (.t 17)], .g (.s (.mkf 19 (.func 42) 0 [(.t 4)])), .ef (some 20) 41 [(.t 11), (.t 18), (.t 19)], .g (.s (.ext 21 0 20)), .g (.s (.ext 22 1 20)), .g (.s (.as 6 (.t 21))), .g (.s (.as 7 (.t 22)))]
def n29_4a : List (List Nat) :=
 [[], [], [1], [2], [3], [], [5], [4, 6], [], [0, 7, 8], [9], [9], [10, 9, 0, 1, 2, 3, 4, 5, 6, 7, 8, 9, 10, 11], [11, 12, 0, 1, 2, 3, 4, 5, 6, 7, 8, 9, 10, 11, 12]]
def n29_5 : C :=
 (.ret [6, 7])
def n29_6 : C :=
 (.q [(23, (.op (.bin .eql) [(.sl 8), (.k (.i .i64 2))]))])
def n29_7 : List RSt :=
 [.g (.s (.mv 25 (.t 0))), .g (.s (.mv 26 (.t 0))), .ef (some 27) NILC [(.t 26)], .g (.s (.fa 28 2 1 (.t 27))), .g (.s (.q 29 (.ld 1 false) [(.t 28)])), .g (.s (.fa 30 2 1 (.t 4))), .g (.s (.q 31 (.ld 1 false) [(.t 30)])), .ef (some 32) LOOK [(.c (.i .i64 59)), (.t 29), (.t 31)], .g (.s (.mkf 33 (.func 43) 0 [(.t 4)])), .ef (some 34) 41 [(.t 25), (.t 32), (.t 33)], .g (.s (.ext 35 0 34)), .g (.s (.ext 36 1 34)), .g (.s (.as 6 (.t 35))), .g (.s (.as 7 (.t 36)))]
def n29_7a : List (List Nat) :=
 [[], [], [1], [2], [3], [], [5], [4, 6], [], [0, 7, 8], [9], [9], [10, 9, 0, 1, 2, 3, 4, 5, 6, 7, 8, 9, 10, 11], [11, 12, 0, 1, 2, 3, 4, 5, 6, 7, 8, 9, 10, 11, 12]]
def n29_8 : C :=
 (.ret [6, 7])
def n29_9 : C :=
 .skip
def n29_10 : List RSt :=
 [.g (.s (.mv 37 (.t 0))), .g (.s (.mv 38 (.t 0))), .ef (some 39) NILC [(.t 38)], .g (.s (.fa 40 2 1 (.t 39))), .g (.s (.q 41 (.ld 1 false) [(.t 40)])), .g (.s (.fa 42 2 1 (.t 4))), .g (.s (.q 43 (.ld 1 false) [(.t 42)])), .ef (some 44) LOOK [(.c (.i .i64 59)), (.t 41), (.t 43)], .g (.s (.mkf 45 (.func 44) 0 [(.t 4)])), .ef (some 46) 41 [(.t 37), (.t 44), (.t 45)], .g (.s (.ext 47 0 46)), .g (.s (.ext 48 1 46)), .g (.s (.as 6 (.t 47))), .g (.s (.as 7 (.t 48)))]
def n29_10a : List (List Nat) :=
 [[], [], [1], [2], [3], [], [5], [4, 6], [], [0, 7, 8], [9], [9], [10, 9, 0, 1, 2, 3, 4, 5, 6, 7, 8, 9, 10, 11], [11, 12, 0, 1, 2, 3, 4, 5, 6, 7, 8, 9, 10, 11, 12]]
def n29_11 : C :=
 (.ret [6, 7])
def code29 : GCode := ⟨3, [.tmp 6, .tmp 7],
 (.seq (.c n29_1)
 (.seq (.seq (.c n29_2)
 (.blk 0 (.seq (.c n29_3)
 (.cond (.sl 9) (.seq (.drw n29_4 n29_4a 9 [11, 12, 13, 14, 15, 16, 17, 18, 19, 20, 21, 22])
 (.c n29_5)) (.seq (.c n29_6)
 (.cond (.sl 23) (.seq (.drw n29_7 n29_7a 9 [25, 26, 27, 28, 29, 30, 31, 32, 33, 34, 35, 36])
 (.c n29_8)) (.c n29_9)))))))
 (.seq (.drw n29_10 n29_10a 9 [37, 38, 39, 40, 41, 42, 43, 44, 45, 46, 47, 48])
 (.c n29_11))))⟩
theorem comp29 : compileG Try.prog false (.seq .c (.seq (.seq .c (.blk (.seq .c (.cond (.seq (.drw 9 [41]) .c) (.seq .c (.cond (.seq (.drw 9 [41]) .c) .c)))))) (.seq (.drw 9 [41]) .c))) Try.f29 = some code29 := by kernel_rfl
theorem okf29 : okFn Try.prog 29 = true := by kernel_rfl
-- 27: corebank/reconcile.rest
def n27_1 : C :=
 (.s [.as 4 (.c (.ow 3 []))] [])
def n27_2 : C :=
 (.s [.as 5 (.c (.ow 3 []))] [])
def n27_3 : C :=
 (.q [(7, (.sl 0)), (8, (.k (.i .i64 0)))])
def n27_4 : C :=
 (.q [(9, (.op (.bin .lss) [(.sl 8), (.sl 7)]))])
def n27_5 : C :=
 (.cond (.sl 9) .skip (.exit 0 [5]))
def n27_6 : C :=
 (.q [(6, (.sl 8))])
def n27_7 : List RSt :=
 [.g (.s (.mv 11 (.t 1))), .g (.s (.mv 12 (.t 6))), .ef (some 13) LOOK [(.c (.i .i64 52)), (.t 11), (.t 12)], .g (.s (.q 14 (.un .not) [(.t 13)]))]
def n27_8 : C :=
 (.cond (.sl 14) (.s [.mv 15 (.t 5), .mv 16 (.t 6), .bsl 17 3 1 [(.t 16)], .app 18 3 1 8 (.t 15) (.t 17), .as 5 (.t 18)] [15, 16, 17, 18]) .skip)
def n27_9 : C :=
 (.q [(8, (.op (.bin .add) [(.sl 8), (.k (.i .i64 1))]))])
abbrev n27_10 : NG :=
 (.seq (.c n27_4)
 (.seq (.c n27_5)
 (.seq (.blk 1 (.seq (.c n27_6)
 (.seq (.lin n27_7 [11, 12, 13])
 (.c n27_8))))
 (.c n27_9))))
def n27_11 : C :=
 (.seq (.s [.mv 20 (.t 5), .as 4 (.t 20)] [20])
 (.ret [4]))
def code27 : GCode := ⟨2, [.tmp 4],
 (.seq (.c n27_1)
 (.seq (.c n27_2)
 (.seq (.seq (.c n27_3)
 (.blk 0 (.loop [1, 5, 7, 8] n27_10)))
 (.c n27_11))))⟩
theorem comp27 : compileG Try.prog false (.seq .c (.seq .c (.seq (.seq .c (.blk (.loop (.seq .c (.seq .c (.seq (.blk (.seq .c (.seq (.lin []) .c))) .c)))))) .c))) Try.f27 = some code27 := by kernel_rfl
theorem okf27 : okFn Try.prog 27 = true := by kernel_rfl
-- 11: corebank/reconcile.Match
def n11_1 : C :=
 (.s [.as 4 (.c (.ow 38 [])), .as 5 (.c (.ow 3 [])), .as 6 (.c (.ow 3 []))] [])
def n11_2 : C :=
 (.seq (.q [(22, (.ite (.op (.bin .gtr) [(.op .len [(.sl 0)]), (.k (.i .i64 4096))]) (.k (.b true)) (.op (.bin .gtr) [(.op .len [(.sl 1)]), (.k (.i .i64 4096))])))])
 (.cond (.sl 22) (.seq (.q [(0, (.op .mv []))])
 (.ret [4, 5, 6])) .skip))
def n11_3 : C :=
 (.s [.mkm 31, .as 8 (.t 31)] [31])
def n11_4 : C :=
 (.s [.as 9 (.c (.ow 38 []))] [])
def n11_5 : C :=
 (.q [(10, (.k (.i .i64 1)))])
def n11_6 : C :=
 (.seq (.q [(33, (.op (.bin .leq) [(.sl 10), (.k (.i .i64 3))]))])
 (.cond (.sl 33) .skip (.exit 0 [0, 1, 7, 8, 9])))
def n11_7 : C :=
 (.s [.mv 36 (.t 0), .q 37 .len [(.t 36)], .mv 38 (.c (.i .i64 0))] [])
def n11_8 : C :=
 (.q [(39, (.op (.bin .lss) [(.sl 38), (.sl 37)]))])
def n11_9 : C :=
 (.cond (.sl 39) .skip (.exit 2 [0, 1, 7, 8, 9, 10]))
def n11_10 : C :=
 (.s [.mv 40 (.t 38), .ix 41 3 (.t 36) (.t 38), .q 42 (.ld 3 true) [(.t 41)], .alo 12 [(.s []), (.i .i64 0), (.i .i64 0)], .as 11 (.t 40), .sto 3 (.t 12) (.t 42)] [40, 41, 42])
def n11_11 : C :=
 (.seq (.s [.mv 43 (.t 8), .mv 44 (.t 11), .mget 45 2 (.b false) (.t 43) (.t 44)] [43, 44])
 (.cond (.sl 45) (.exit 3 [0, 1, 7, 8, 9, 10, 36, 37, 38]) .skip))
def n11_12 : List RSt :=
 [.g (.s (.mv 47 (.t 7))), .g (.s (.q 48 (.ld 3 true) [(.t 12)])), .g (.s (.mv 49 (.t 10))), .ef (some 50) 29 [(.t 47), (.t 48), (.t 49)], .g (.s (.mv 46 (.t 50))), .g (.s (.ext 51 0 46)), .g (.s (.ext 52 1 46)), .g (.s (.as 13 (.t 51))), .g (.s (.as 14 (.t 52)))]
def n11_13 : C :=
 (.seq (.q [(53, (.sl 14))])
 (.cond (.sl 53) (.seq (.s [.mv 54 (.t 8), .mv 55 (.t 11), .mset 2 (.t 54) (.t 55) (.c (.b true))] [54, 55])
 (.s [.mv 56 (.t 9), .mv 57 (.t 11), .mv 58 (.t 13), .mv 59 (.t 10), .bld 60 [(.i .i64 0), (.i .i64 0), (.i .i64 0)] [(0, 1), (1, 1), (2, 1)] [(.t 57), (.t 58), (.t 59)], .bsl 61 38 3 [(.t 60)], .app 62 38 3 24 (.t 56) (.t 61), .as 9 (.t 62)] [56, 57, 58, 59, 60, 61, 62])) .skip))
def n11_14 : C :=
 (.q [(38, (.op (.bin .add) [(.sl 38), (.k (.i .i64 1))]))])
abbrev n11_15 : NG :=
 (.seq (.c n11_8)
 (.seq (.c n11_9)
 (.seq (.blk 3 (.seq (.c n11_10)
 (.seq (.c n11_11)
 (.seq (.lin n11_12 [47, 48, 49, 50, 46, 51, 52])
 (.c n11_13)))))
 (.c n11_14))))
def n11_16 : C :=
 (.q [(10, (.op (.bin .add) [(.sl 10), (.k (.i .i64 1))]))])
abbrev n11_17 : NG :=
 (.seq (.c n11_6)
 (.seq (.blk 1 (.seq (.c n11_7)
 (.blk 2 (.loop [0, 1, 7, 8, 9, 10, 36, 37, 38] n11_15))))
 (.c n11_16)))
def n11_18 : C :=
 (.s [.mv 64 (.t 9), .callm (some 65) 30 (mutOf 30) (.t 64) [(.c (.f (.func 31) [] []))]] [64, 65])
def n11_19 : List RSt :=
 [.g (.s (.mv 66 (.t 9))), .g (.s (.mv 67 (.t 0))), .g (.s (.q 68 .len [(.t 67)])), .g (.s (.mv 69 (.t 8))), .ef (some 70) 27 [(.t 68), (.t 69)], .g (.s (.mv 71 (.t 1))), .g (.s (.q 72 .len [(.t 71)])), .g (.s (.mv 73 (.t 7))), .ef (some 74) NILC [(.t 73)], .g (.s (.fa 75 3 1 (.t 74))), .g (.s (.q 76 (.ld 1 false) [(.t 75)])), .ef (some 77) 27 [(.t 72), (.t 76)], .g (.s (.as 4 (.t 66))), .g (.s (.as 5 (.t 70))), .g (.s (.as 6 (.t 77)))]
def n11_19a : List (List Nat) :=
 [[], [], [1], [], [2, 3], [], [5], [], [7], [8], [9], [6, 10, 4], [0, 11, 0], [4, 12, 0, 1, 2, 3, 4, 12], [11, 13, 0, 1, 2, 3, 4, 5, 6, 7, 8, 9, 10, 11, 12, 13]]
def n11_20 : C :=
 (.ret [4, 5, 6])
def code11 : GCode := ⟨2, [.tmp 4, .tmp 5, .tmp 6],
 (.seq (.c n11_1)
 (.seq (.c n11_2)
 (.seq (.anew [.mv 29 (.t 1)] (some 30) 28 [(.t 29)] [.as 7 (.t 30)] [29, 30])
 (.seq (.c n11_3)
 (.seq (.c n11_4)
 (.seq (.seq (.c n11_5)
 (.blk 0 (.loop [0, 1, 7, 8, 9, 10] n11_17)))
 (.seq (.c n11_18)
 (.seq (.thaw 8 (.drw n11_19 n11_19a 100 [66, 67, 68, 69, 70, 71, 72, 73, 74, 75, 76, 77]))
 (.c n11_20)))))))))⟩
theorem comp11 : compileG Try.prog true (.seq .c (.seq .c (.seq (.anew 1) (.seq .c (.seq .c (.seq (.seq .c (.blk (.loop (.seq .c (.seq (.blk (.seq .c (.blk (.loop (.seq .c (.seq .c (.seq (.blk (.seq .c (.seq .c (.seq (.lin [29]) .c)))) .c))))))) .c))))) (.seq .c (.seq (.thaw 8 (.drw 100 [27])) .c)))))))) Try.f11 = some code11 := by kernel_rfl
theorem okf11 : okFn Try.prog 11 = true := by kernel_rfl
end Go.Proofs.Ytmhpmghhgppdnaa
