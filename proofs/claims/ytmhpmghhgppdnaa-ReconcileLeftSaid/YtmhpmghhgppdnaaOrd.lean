/-
  Pairs, sorted by their first number: what slices.SortFunc is asked here, as a function of plain data.
-/
import Derived.Test.YtmhpmghhgppdnaaProg
import Derived.Test.YtmhpmghhgppdnaaVmO
namespace Go.Proofs.Ytmhpmghhgppdnaa
open Go.VM
abbrev Tri := Int × Int × Int
def triV (x : Tri) : V := .a [.i .i64 x.1, .i .i64 x.2.1, .i .i64 x.2.2]
def toTris : List V → Option (List Tri)
  | [] => some []
  | .a [.i .i64 a, .i .i64 b, .i .i64 c] :: r => (toTris r).map ((a, b, c) :: ·)
  | _ => none
def insT (x : Tri) : List Tri → List Tri
  | [] => [x]
  | y :: r => if x.1 ≤ y.1 then x :: y :: r else y :: insT x r
def isortT : List Tri → List Tri
  | [] => []
  | x :: r => insT x (isortT r)
/-- Strictly ascending. -/
def strictT : List Tri → Bool
  | x :: y :: r => decide (x.1 < y.1) && strictT (y :: r)
  | _ => true
def sortTRun (es xs : List V) : Option (List V) := match xs with
  | [.f (.func 31) [] []] => (toTris es).bind fun zs => if zs.length ≤ 1000000 ∧ strictT (isortT zs) = true then some ((isortT zs).map triV) else none
  | _ => none
instance glob : Glob := ⟨[], [(30, ⟨38, false, false, sortTRun, 0⟩)]⟩
end Go.Proofs.Ytmhpmghhgppdnaa
