/-
  The order of a chart's accounts, in numbers; what the function that appends it is said to do with the slice that it is given.
-/
import Derived.Test.YtdaclkakglmfeaaProg
import Derived.Test.YtdaclkakglmfeaaVmS
import Derived.Test.YtdaclkakglmfeaaVmP
import Derived.KernelRfl
namespace Go.Proofs.Ytdaclkakglmfeaa
open Go.VM
/-- Of accounts, Id and parent: is the one that stands at i the first with its Id? -/
def firstP (l : List (Int × Int)) (i : Nat) : Bool := match l[i]? with
  | some g => (l.take i).all fun p => p.1 != g.1
  | none => false
/-- The accounts with a parent among those that stand at these places, each with all that is below it. -/
def belR (rec : Int → Option (List Int)) (l : List (Int × Int)) (p : Int) : List Nat → Option (List Int)
  | [] => some []
  | i :: r => match l[i]? with
    | some g => if g.2 = p ∧ firstP l i = true then (if g.1 = 0 then some [g.1] else (rec g.1).map (g.1 :: ·)).bind fun z => (belR rec l p r).map (z ++ ·) else belR rec l p r
    | none => none
def belN : Nat → List (Int × Int) → Int → Option (List Int)
  | 0, _, _ => none
  | n + 1, l, p => belR (belN n l) l p (List.range l.length)
def glP : V → Option (Int × Int)
  | .a [.i .i64 id, .i .i64 p, .i .i64 _, .s _] => some (id, p)
  | _ => none
def glsP : List V → Option (List (Int × Int))
  | [] => some []
  | x :: r => (glP x).bind fun p => (glsP r).map (p :: ·)
def belRun (n : Nat) (es xs : List V) : Option (List V) := match xs with
  | [.l gs, .i .i64 p] => if gs.length ≤ 1000 then (toInts es).bind fun ks => (glsP gs).bind fun l => (belN n l p).bind fun zs => if ks.length + zs.length ≤ 1000000 then some (ints (ks ++ zs)) else none else none
  | _ => none
/-- The functions that write into a slice of the call's own. -/
def mutsN (n : Nat) : List (Nat × Mut) := [(30, ⟨3, false, false, revRun, 0⟩), (32, ⟨3, false, false, sortRun, 0⟩), (33, ⟨3, true, false, compRun, 0⟩), (37, ⟨3, true, false, belRun n, 2⟩)]
abbrev globN (n : Nat) : Glob := ⟨[], mutsN n⟩
instance glob : Glob := ⟨[], mutsN 1002⟩
end Go.Proofs.Ytdaclkakglmfeaa
