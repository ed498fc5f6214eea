/-
  The code of the law on parents, as the evaluator runs it: printed by a program of ours off the translation, and held against it by the kernel; the evaluator's answers for it over those of the other laws.
-/
import Derived.Test.YtdaclkakglmfeaaLaws
namespace Go.Proofs.Ytdaclkakglmfeaa
open Go.VM
-- 8: corebank/corebanklaw18.ChartParents
def body8_1 : C :=
 (.seq (.seq (.q [(45, (.op (.bin .lss) [(.sl 10), (.sl 6)]))])
 (.cond (.sl 45) .skip (.exit 2 [0, 5, 6, 7, 9])))
 (.seq (.blk 3 (.seq (.q [(9, (.ite (.sl 9) (.k (.b true)) (.op (.bin .eql) [(.op (.ld 1 false) [(.op (.ix 1) [(.sl 5), (.sl 10)])]), (.op (.ld 1 false) [(.op (.fa 1 1) [(.sl 7)])])])))])
 (.seq (.q [(66, (.op (.bin .eql) [(.op (.ld 1 false) [(.op (.ix 1) [(.sl 5), (.sl 10)])]), (.op (.ld 1 false) [(.op (.ix 1) [(.sl 5), (.sl 6)])])]))])
 (.cond (.sl 66) (.seq (.q [(4, (.k (.b false)))])
 (.ret [4])) .skip))))
 (.q [(10, (.op (.bin .add) [(.sl 10), (.k (.i .i64 1))]))])))
def reg8 : C :=
 (.seq (.dg [.s (.mv 67 (.t 9)), .s (.q 68 (.un .not) [(.t 67)]), .s (.mv 69 (.t 68)), .gd 69 false (some 70) (.mv 70 (.t 0)), .gd 69 false (some 71) (.fa 71 0 1 (.t 7)), .gd 69 false (some 72) (.q 72 (.ld 1 false) [(.t 71)]), .gd 69 false (some 73) (.call (some 73) 15 [(.t 70), (.t 72)]), .gd 69 false (some 74) (.mv 74 (.t 0)), .gd 69 false (some 75) (.fa 75 1 1 (.t 7)), .gd 69 false (some 76) (.q 76 (.ld 1 false) [(.t 75)]), .gd 69 false (some 77) (.call (some 77) 15 [(.t 74), (.t 76)]), .gd 69 false (some 78) (.fa 78 0 1 (.t 7)), .gd 69 false (some 79) (.q 79 (.ld 1 false) [(.t 78)]), .gd 69 false (some 80) (.bsl 80 3 1 [(.t 79)]), .gd 69 false (some 81) (.app 81 3 1 8 (.t 77) (.t 80)), .gd 69 false (some 82) (.call (some 82) 14 [(.t 73), (.t 81)]), .gd 69 false (some 83) (.q 83 (.un .not) [(.t 82)]), .pick 84 69 (.c (.b true)) (.t 83)] [[], [0], [1], [2], [2], [4, 2], [3, 5, 2, 2], [2], [2], [8, 2], [7, 9, 6, 2], [2], [11, 2], [12, 2], [10, 13, 10, 2], [6, 14, 14, 2], [15, 2], [2, 16]] [67, 68, 69, 70, 71, 72, 73, 74, 75, 76, 77, 78, 79, 80, 81, 82, 83])
 (.cond (.sl 84) (.seq (.q [(4, (.k (.b false)))])
 (.ret [4])) .skip))
def body8_2 : C :=
 (.seq (.seq (.q [(26, (.op (.bin .lss) [(.sl 6), (.op .len [(.sl 5)])]))])
 (.cond (.sl 26) .skip (.exit 0 [])))
 (.seq (.blk 1 (.seq (.s [.mv 30 (.t 0), .mv 31 (.t 5), .mv 32 (.t 6), .ix 33 1 (.t 31) (.t 32), .q 34 (.ld 1 false) [(.t 33)], .call (some 35) 12 [(.t 30), (.t 34)], .mv 29 (.t 35), .ext 36 0 29, .ext 37 1 29, .alo 7 [(.i .i64 0), (.i .i64 0), (.i .i64 0), (.s [])], .sto 4 (.t 7) (.t 36), .as 8 (.t 37)] [30, 31, 32, 33, 34, 35, 29, 36, 37])
 (.seq (.seq (.q [(39, (.op (.un .not) [(.sl 8)]))])
 (.cond (.sl 39) (.seq (.q [(4, (.k (.b false)))])
 (.ret [4])) .skip))
 (.seq (.q [(9, (.op (.bin .eql) [(.op (.ld 1 false) [(.op (.fa 1 1) [(.sl 7)])]), (.k (.i .i64 0))]))])
 (.seq (.seq (.q [(10, (.k (.i .i64 0)))])
 (.blk 2 (.loop [0, 5, 6, 7, 9, 10] body8_1)))
 reg8)))))
 (.q [(6, (.op (.bin .add) [(.sl 6), (.k (.i .i64 1))]))])))
def code8 : FCode := ⟨2, [.tmp 4],
 (.seq (.s [.box 3 (.t 1), .as 4 (.c (.b false))] [])
 (.seq (.seq (.q [(14, (.op (.bin .neq) [(.op (.call false 11) [(.sl 0), (.op (.ld 14 true) [(.sl 3)])]), (.k (.i .i64 0))]))])
 (.cond (.sl 14) (.seq (.q [(4, (.op (.call false 9) []))])
 (.ret [4])) .skip))
 (.seq (.s [.mv 16 (.t 0), .call (some 17) 21 [(.t 16)], .as 5 (.t 17)] [16, 17])
 (.seq (.seq (.q [(22, (.op (.bin .neq) [(.op .len [(.sl 5)]), (.op .len [(.sl 0)])]))])
 (.cond (.sl 22) (.seq (.q [(4, (.k (.b false)))])
 (.ret [4])) .skip))
 (.seq (.seq (.q [(6, (.k (.i .i64 0)))])
 (.blk 0 (.loop [0, 5, 6] body8_2)))
 (.seq (.q [(4, (.op (.call false 9) []))])
 (.ret [4])))))))⟩
theorem comp8 : compile Try.prog Try.f8 = some code8 := by kernel_rfl
theorem okf8 : okFn Try.prog 8 = true := by kernel_rfl
def tab8 : Nat → Option FCode := fun f => if f = 8 then some code8 else none
noncomputable def O8 : Orc := den tab8 (O XO)
theorem sound8 : SoundO Try.prog O8 := by
  refine den_sound (fun f fc h => ?_) (fun f xs y h => sound.2 f xs y h) mutOK
  unfold tab8 at h
  split at h
  · cases h; rename_i he; subst he; exact ⟨_, Try.func8, comp8, okf8⟩
  · cases h
theorem x8 {f : Nat} (hf : f ≠ 8) {xs : List V} {y : V} (h : O XO f xs = some y) : O8 f xs = some y := den_ext (if_neg hf) h
end Go.Proofs.Ytdaclkakglmfeaa
