/-
  The two regions in which the table's indexes grow: their operations.
-/
import Derived.Test.YtmhpmghhgppdnaaProg
import Derived.Test.YtmhpmghhgppdnaaVmW
import Derived.KernelRfl
namespace Go.Proofs.Ytmhpmghhgppdnaa
open Go.VM Go.RowKit
def regId (n : Nat) : Code → Option (List Oper)
  | .region i ops _ => if i = n then some ops.toList else none
  | .seq a b => (regId n a).or (regId n b)
  | .cond _ a b => (regId n a).or (regId n b)
  | .block _ a => regId n a
  | .loop a => regId n a
  | _ => none
noncomputable def opsN (n : Nat) : List Oper := ((Try.f28.body).bind (regId n)).getD []
noncomputable def opN (n i : Nat) : Oper := (opsN n).getD i default
/-- What an operation of such a region is. -/
def opOf (d fi mt kf kty : Nat) : Nat → Op
  | 0 => .move (.tmp 3)
  | 1 => .nilCheck (.tmp d)
  | 2 => .fieldAddr 61 (.tmp (d + 1)) fi
  | 3 => .load mt (.tmp (d + 2))
  | 4 => .fieldAddr 40 (.tmp 5) kf
  | 5 => .load kty (.tmp (d + 4))
  | 6 => .move (.tmp 3)
  | 7 => .nilCheck (.tmp (d + 6))
  | 8 => .fieldAddr 61 (.tmp (d + 7)) fi
  | 9 => .load mt (.tmp (d + 8))
  | 10 => .fieldAddr 40 (.tmp 5) kf
  | 11 => .load kty (.tmp (d + 10))
  | 12 => .lookup mt (.tmp (d + 9)) (.tmp (d + 11)) false
  | 13 => .move (.tmp 4)
  | 14 => .buildSlice 26 1 #[(0, .tmp (d + 13))]
  | 15 => .call { callee := .builtin .append, args := #[.tmp (d + 12), .tmp (d + 14)], argTypes := #[26, 26] }
  | _ => .mapUpdate mt (.tmp (d + 3)) (.tmp (d + 5)) (.tmp (d + 15))
def dstOf (d : Nat) (i : Nat) : Option Nat := if i = 16 then none else some (d + i)
theorem len5 : (opsN 5).length = 17 := by kernel_rfl
theorem len6 : (opsN 6).length = 17 := by kernel_rfl
theorem op5 : (opsN 5).map (·.op) = (List.range 17).map (opOf 19 1 58 0 9) := by kernel_rfl
theorem op6 : (opsN 6).map (·.op) = (List.range 17).map (opOf 35 2 59 2 3) := by kernel_rfl
theorem dst5 : (opsN 5).map (·.dst) = (List.range 17).map (dstOf 19) := by kernel_rfl
theorem dst6 : (opsN 6).map (·.dst) = (List.range 17).map (dstOf 35) := by kernel_rfl
theorem gd5 : (opsN 5).map (·.guard) = List.replicate 17 none := by kernel_rfl
theorem gd6 : (opsN 6).map (·.guard) = List.replicate 17 none := by kernel_rfl
theorem ty15_5 : ((opsN 5)[15]?).map (·.type) = some 26 := by kernel_rfl
theorem ty15_6 : ((opsN 6)[15]?).map (·.type) = some 26 := by kernel_rfl
/-- The order that such a region asks. -/
abbrev afs : List (List Nat) := [[], [0], [1], [2], [], [4], [], [6], [7], [8], [], [10], [9, 11], [], [13], [12, 14], [3, 5, 15, 15, 0, 1, 2, 3, 4, 5, 6, 7, 8, 9, 10, 11, 12, 13, 14, 15]]
theorem aft5 : (opsN 5).map aft = afs := by kernel_rfl
theorem aft6 : (opsN 6).map aft = afs := by kernel_rfl
end Go.Proofs.Ytmhpmghhgppdnaa
