/-
  The law on the row of all roots and on rows of several roots answers yes: the part behind the list of roots.
-/
import Derived.Test.YtmhbkofbbkogeaaGreatAll2
import Derived.Test.YtmhbkofbbkogeaaGreatSnd3
namespace Go.Proofs.YtmhbkofbbkogeaaGreat
open Go.VM
abbrev X0 : Orc := fun _ _ => none
def reg27 : C :=
 (.d [.q 100 (.ld 22 true) [(.t 3)], .fa 101 0 1 (.t 4), .q 102 (.ld 1 false) [(.t 101)], .fa 103 1 1 (.t 4), .q 104 (.ld 1 false) [(.t 103)], .fa 105 2 1 (.t 4), .q 106 (.ld 1 false) [(.t 105)], .mv 107 (.t 16), .mv 108 (.t 16), .q 109 (.bin .add) [(.t 108), (.c (.i .i64 1))], .slc 110 1 true true [(.t 106), (.t 107), (.t 109)], .bld 111 [(.s []), (.i .i64 0), (.l [])] [(0, 1), (1, 1), (2, 1)] [(.t 102), (.t 104), (.t 110)], .bsl 112 36 3 [(.t 111)], .mv 113 (.t 2), .call (some 114) 6 [(.t 100), (.t 112), (.t 113)], .mv 99 (.t 114), .ext 115 0 99, .ext 116 1 99, .as 17 (.t 115), .as 18 (.t 116)] [[], [], [1], [], [3], [], [5], [], [], [8], [5, 6, 7, 8, 9], [1, 2, 3, 4, 5, 6, 7, 8, 9, 10], [1, 2, 3, 4, 5, 6, 7, 8, 9, 10, 11], [], [0, 1, 2, 3, 4, 5, 6, 7, 8, 9, 10, 11, 12, 13], [0, 1, 2, 3, 4, 5, 6, 7, 8, 9, 10, 11, 12, 13, 14], [0, 1, 2, 3, 4, 5, 6, 7, 8, 9, 10, 11, 12, 13, 14, 15], [0, 1, 2, 3, 4, 5, 6, 7, 8, 9, 10, 11, 12, 13, 14, 15], [0, 1, 2, 3, 4, 5, 6, 7, 8, 9, 10, 11, 12, 13, 14, 15, 16], [0, 1, 2, 3, 4, 5, 6, 7, 8, 9, 10, 11, 12, 13, 14, 15, 16, 17, 18]] [100, 101, 102, 103, 104, 105, 106, 107, 108, 109, 110, 111, 112, 113, 114, 99, 115, 116])
def body3_3' : C :=
 (.seq (.seq (.q [(96, (.op (.bin .lss) [(.sl 16), (.op .len [(.op (.ld 1 false) [(.op (.fa 2 1) [(.sl 4)])])])]))])
 (.cond (.sl 96) .skip (.exit 6 [2, 3, 4, 12, 14, 15])))
 (.seq (.blk 7 (.seq reg27
 (.seq (.seq (.q [(118, (.op (.bin .eql) [(.sl 18), (.k (.i .i64 6))]))])
 (.cond (.sl 118) (.seq (.q [(6, (.op (.call false 7) []))])
 (.ret [6])) .skip))
 (.seq (.seq (.q [(128, (.ite (.op (.bin .neq) [(.sl 18), (.k (.i .i64 0))]) (.k (.b true)) (.op (.bin .neq) [(.op .len [(.sl 17)]), (.op .len [(.sl 12)])])))])
 (.cond (.sl 128) (.seq (.q [(6, (.k (.b false)))])
 (.ret [6])) .skip))
 (.q [(15, (.op (.bin .add) [(.sl 15), (.op (.ld 1 false) [(.op (.fa 2 1) [(.op (.ix 3) [(.sl 17), (.sl 14)])])])]))])))))
 (.q [(16, (.op (.bin .add) [(.sl 16), (.k (.i .i64 1))]))])))
theorem body3_3_eq : body3_3 = body3_3' := rfl
theorem slc_one (o : Orc) (l : List Int) (k : Nat) (h : k < l.length) : opQ o (.slc 1 true true) [.l (ints l), .i .i64 (k : Int), .i .i64 ((k : Int) + 1)] = some (.l [.i .i64 l[k]]) := by
  have hb : bnds (ints l).length true true [.i .i64 (k : Int), .i .i64 ((k : Int) + 1)] = some (k, k + 1) := by
    have h1 : ((k : Int) + 1) ≤ ((ints l).length : Int) := by simp; omega
    simp only [bnds]
    rw [if_pos ⟨by omega, by omega, h1⟩]
    simp
  have ha : (ints l).all (fun x => x.cells.length == 1) = true := encL_all fun _ => rfl
  simp only [opQ, ha, if_true, hb, Option.map_some]
  have : (ints l).take (k + 1) = (ints l).take k ++ [.i .i64 l[k]] := by
    have h2 : k < (ints l).length := by simpa using h
    rw [List.take_succ_eq_append_getElem h2]
    simp
  rw [this, List.drop_append_of_le_length (by simp; omega), List.drop_eq_nil_of_le (by simp; omega)]
  simp
set_option maxHeartbeats 4000000 in
theorem reg27_run (bk : Int) (B : List V) (hB : B.length = 22) (r : Row) (D : List V) (i : Int) (s : Int) (k : Nat) (hk : k < r.roots.length) (hk2 : k ≤ 1000) (y : List V) (e : Int) (h6 : OB 6 [.a B, .l [(partRow r r.roots[k]).v], .i .i64 bk] = some (.t [.l y, .i .i64 e])) :
    exec OB reg27 [(2, .i .i64 bk), (3, .r B), (4, .r r.cells), (12, .l D), (14, .i .i64 i), (15, .i .i64 s), (16, .i .i64 k), (96, .b true)] = some (.n, [(2, .i .i64 bk), (3, .r B), (4, .r r.cells), (12, .l D), (14, .i .i64 i), (15, .i .i64 s), (16, .i .i64 k), (17, .l y), (18, .i .i64 e), (96, .b true)]) := by
  have hs := slc_one OB r.roots k hk
  have hw : IntKind.i64.wrap ((k : Int) + 1) = (k : Int) + 1 := wrap_i64 _ (by omega)
  simp [partRow, Row.v, encL] at h6
  simp [encL] at hs
  rcases y with _ | ⟨y0, ys⟩
  · simp (config := { maxSteps := 2000000 }) [reg27, hB, hs, hw, h6, encL]
  · simp (config := { maxSteps := 2000000 }) [reg27, hB, hs, hw, h6, encL]
end Go.Proofs.YtmhbkofbbkogeaaGreat
