/-
  Four ways through Valid's condition.
-/
import Derived.Test.YtmhpmghhgppdnaaEq4
namespace Go.Proofs.Ytmhpmghhgppdnaa
open Go.VM Go.RowKit
set_option maxRecDepth 100000 in
set_option maxHeartbeats 4000000 in
theorem way1 {X : Orc} (a b : List Item) (l : List Tri) (A B : List Int) (i : Nat) (x1 x2 x3 : Int) (h : x1 < 0) : D15 X (EG a b l A B i x1 x2 x3) (EGb a b l A B i x1 x2 x3 true) := by
  refine D15_of ?_
  unfold dgS
  iterate 49 (refine RunK.step (by simp [h]; rfl) (by simp; rfl) (by kernel_rfl) ?_)
  exact RunK.done ⟨by kernel_rfl, by simp⟩
set_option maxRecDepth 100000 in
set_option maxHeartbeats 4000000 in
theorem way2 {X : Orc} (a b : List Item) (l : List Tri) (A B : List Int) (i : Nat) (x1 x2 x3 : Int) (h0 : ¬ x1 < 0) (h : (a.length : Int) ≤ x1) : D15 X (EG a b l A B i x1 x2 x3) (EGb a b l A B i x1 x2 x3 true) := by
  refine D15_of ?_
  unfold dgS
  iterate 49 (refine RunK.step (by simp [h0, h]; rfl) (by simp; rfl) (by kernel_rfl) ?_)
  exact RunK.done ⟨by kernel_rfl, by simp⟩
set_option maxRecDepth 100000 in
set_option maxHeartbeats 4000000 in
theorem way3 {X : Orc} (a b : List Item) (l : List Tri) (A B : List Int) (i : Nat) (p : Nat) (hp : p < a.length) (x2 x3 : Int) (h : x2 < 0) : D15 X (EG a b l A B i (p : Int) x2 x3) (EGb a b l A B i (p : Int) x2 x3 true) := by
  have hp1 : ¬ (p : Int) < 0 := by omega
  have hp2 : ¬ (a.length : Int) ≤ (p : Int) := by omega
  refine D15_of ?_
  unfold dgS
  iterate 49 (refine RunK.step (by simp [hp1, hp2, h]; rfl) (by simp; rfl) (by kernel_rfl) ?_)
  exact RunK.done ⟨by kernel_rfl, by simp⟩
set_option maxRecDepth 100000 in
set_option maxHeartbeats 4000000 in
theorem way4 {X : Orc} (a b : List Item) (l : List Tri) (A B : List Int) (i : Nat) (p : Nat) (hp : p < a.length) (x2 x3 : Int) (h0 : ¬ x2 < 0) (h : (b.length : Int) ≤ x2) : D15 X (EG a b l A B i (p : Int) x2 x3) (EGb a b l A B i (p : Int) x2 x3 true) := by
  have hp1 : ¬ (p : Int) < 0 := by omega
  have hp2 : ¬ (a.length : Int) ≤ (p : Int) := by omega
  refine D15_of ?_
  unfold dgS
  iterate 49 (refine RunK.step (by simp [hp1, hp2, h0, h]; rfl) (by simp; rfl) (by kernel_rfl) ?_)
  exact RunK.done ⟨by kernel_rfl, by simp⟩
end Go.Proofs.Ytmhpmghhgppdnaa
