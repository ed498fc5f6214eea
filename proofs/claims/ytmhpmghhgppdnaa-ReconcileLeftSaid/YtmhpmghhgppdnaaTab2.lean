/-
  The table of what is left: the match of an item.
-/
import Derived.Test.YtmhpmghhgppdnaaTab
namespace Go.Proofs.Ytmhpmghhgppdnaa
open Go.VM Go.RowKit
variable {X : Orc}
/-- Do two days differ by at most five? -/
def nearP (a b : Int) : Bool := decide (max a b - min a b ≤ 5)
theorem wrap_u64m (n : Int) : IntKind.u64.wrap n = n % 18446744073709551616 := by simp [IntKind.wrap, IntKind.bits, IntKind.signed]
theorem o45 (a b : Int) (ha : I64 a) (hb : I64 b) : O X 45 [.i .i64 a, .i .i64 b] = some (.b (nearP a b)) := by
  refine orun (fc := code45) rfl rfl rfl ?_
  have h : IntKind.u64.wrap (IntKind.u64.wrap (if b > a then b else a) - IntKind.u64.wrap (if b < a then b else a)) = max a b - min a b := by
    simp only [wrap_u64m]
    simp only [I64] at ha hb
    split <;> split <;> omega
  simp only [wrap_u64m] at h
  simp [code45, wrap_u64m, h, nearP]
theorem o42 (y x : Item) : O X 42 [y.v, .r x.cells] = some (.b (decide (y.amount = x.amount))) := by
  refine orun (fc := code42) rfl rfl rfl ?_
  simp [code42]
theorem o43 (y x : Item) : O X 43 [y.v, .r x.cells] = some (.b (decide (y.day = x.day))) := by
  refine orun (fc := code43) rfl rfl rfl ?_
  simp [code43]
theorem o44 (y x : Item) (hx : I64 x.day) (hy : I64 y.day) : O X 44 [y.v, .r x.cells] = some (.b (nearP x.day y.day)) := by
  refine orun (fc := code44) rfl rfl rfl ?_
  have h := o45 (X := X) x.day y.day hx hy
  simp [code44, h]
end Go.Proofs.Ytmhpmghhgppdnaa
