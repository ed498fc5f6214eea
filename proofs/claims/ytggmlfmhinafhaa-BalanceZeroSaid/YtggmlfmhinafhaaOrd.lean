/-
  What the reference's add is said to do with the list that it is given, as a function of plain data.
-/
import Derived.Test.YtggmlfmhinafhaaProg
import Derived.Test.YtggmlfmhinafhaaVmQ
import Derived.KernelRfl
namespace Go.Proofs.Ytggmlfmhinafhaa
open Go.VM
abbrev L3 := Int × Int × List UInt8
def l3V (x : L3) : V := .a [.i .i64 x.1, .i .i64 x.2.1, .s x.2.2]
def to3 : V → Option L3
  | .a [.i .i64 a, .i .i64 m, .s c] => some (a, m, c)
  | _ => none
def to3s : List V → Option (List L3)
  | [] => some []
  | x :: r => (to3 x).bind fun y => (to3s r).map (y :: ·)
/-- By account, then by currency. -/
def lt3 (x y : L3) : Bool := decide (x.1 < y.1) || (decide (x.1 = y.1) && Op.bytesLess x.2.2 y.2.2)
/-- How many stand ahead that are below. -/
def up3 (x : L3) : List L3 → Nat
  | [] => 0
  | y :: r => if lt3 y x = true then up3 x r + 1 else 0
def add3 (l : List L3) (x : L3) : List L3 := match l[up3 x l]? with
  | some y => if lt3 x y = true then l.take (up3 x l) ++ x :: l.drop (up3 x l) else l.set (up3 x l) (y.1, IntKind.i64.wrap (y.2.1 + x.2.1), y.2.2)
  | none => l ++ [x]
def addRun (es xs : List V) : Option (List V) := match xs with
  | [x] => (to3s es).bind fun l => (to3 x).bind fun y => if l.length ≤ 1000000 then some ((add3 l y).map l3V) else none
  | _ => none
def muts : List (Nat × Mut) := [(35, ⟨44, true, false, addRun, 0⟩)]
abbrev glob0 : Glob := ⟨[], []⟩
instance glob : Glob := ⟨[], muts⟩
end Go.Proofs.Ytggmlfmhinafhaa
