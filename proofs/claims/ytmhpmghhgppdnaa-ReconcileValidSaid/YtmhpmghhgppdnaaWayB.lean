/-
  Four ways through Valid's condition.
-/
import Derived.Test.YtmhpmghhgppdnaaEq4
namespace Go.Proofs.Ytmhpmghhgppdnaa
open Go.VM Go.RowKit
set_option maxRecDepth 100000 in
set_option maxHeartbeats 4000000 in
theorem way5 {X : Orc} (a b : List Item) (l : List Tri) (A B : List Int) (i : Nat) (p : Nat) (hp : p < a.length) (q : Nat) (hq : q < b.length) (x3 : Int) (h : A.contains (p : Int) = true) : D15 X (EG a b l A B i (p : Int) (q : Int) x3) (EGb a b l A B i (p : Int) (q : Int) x3 true) := by
  have hp1 : ¬ (p : Int) < 0 := by omega
  have hp2 : ¬ (a.length : Int) ≤ (p : Int) := by omega
  have hq1 : ¬ (q : Int) < 0 := by omega
  have hq2 : ¬ (b.length : Int) ≤ (q : Int) := by omega
  have m1 := mfind_set (p : Int) A
  have k1 : ∀ x ∈ ints A, keyB 2 x = true := List.all_eq_true.1 (ints_keys A)
  rw [h] at m1
  refine D15_of ?_
  unfold dgS
  iterate 49 (refine RunK.step (by simp [hp1, hp2, hq1, hq2, m1, kb2]; first | rfl | exact ⟨k1, rfl⟩) (by simp; rfl) (by kernel_rfl) ?_)
  exact RunK.done ⟨by kernel_rfl, by simp⟩
set_option maxRecDepth 100000 in
set_option maxHeartbeats 4000000 in
theorem way6 {X : Orc} (a b : List Item) (l : List Tri) (A B : List Int) (i : Nat) (p : Nat) (hp : p < a.length) (q : Nat) (hq : q < b.length) (x3 : Int) (h0 : A.contains (p : Int) = false) (h : B.contains (q : Int) = true) : D15 X (EG a b l A B i (p : Int) (q : Int) x3) (EGb a b l A B i (p : Int) (q : Int) x3 true) := by
  have hp1 : ¬ (p : Int) < 0 := by omega
  have hp2 : ¬ (a.length : Int) ≤ (p : Int) := by omega
  have hq1 : ¬ (q : Int) < 0 := by omega
  have hq2 : ¬ (b.length : Int) ≤ (q : Int) := by omega
  have m1 := mfind_set (p : Int) A
  have k1 : ∀ x ∈ ints A, keyB 2 x = true := List.all_eq_true.1 (ints_keys A)
  have m2 := mfind_set (q : Int) B
  have k2 : ∀ x ∈ ints B, keyB 2 x = true := List.all_eq_true.1 (ints_keys B)
  rw [h0] at m1
  rw [h] at m2
  refine D15_of ?_
  unfold dgS
  iterate 49 (refine RunK.step (by simp [hp1, hp2, hq1, hq2, m1, m2, kb2]; first | rfl | exact ⟨k1, rfl⟩ | exact ⟨k2, rfl⟩) (by simp; rfl) (by kernel_rfl) ?_)
  exact RunK.done ⟨by kernel_rfl, by simp⟩
set_option maxRecDepth 100000 in
set_option maxHeartbeats 4000000 in
theorem way7 {X : Orc} (a b : List Item) (l : List Tri) (A B : List Int) (i : Nat) (p : Nat) (hp : p < a.length) (q : Nat) (hq : q < b.length) (x3 : Int) (h0 : A.contains (p : Int) = false) (h1 : B.contains (q : Int) = false) (h : ¬ a[p].amount = b[q].amount) : D15 X (EG a b l A B i (p : Int) (q : Int) x3) (EGb a b l A B i (p : Int) (q : Int) x3 true) := by
  have hp1 : ¬ (p : Int) < 0 := by omega
  have hp2 : ¬ (a.length : Int) ≤ (p : Int) := by omega
  have hq1 : ¬ (q : Int) < 0 := by omega
  have hq2 : ¬ (b.length : Int) ≤ (q : Int) := by omega
  have m1 := mfind_set (p : Int) A
  have k1 : ∀ x ∈ ints A, keyB 2 x = true := List.all_eq_true.1 (ints_keys A)
  have m2 := mfind_set (q : Int) B
  have k2 : ∀ x ∈ ints B, keyB 2 x = true := List.all_eq_true.1 (ints_keys B)
  rw [h0] at m1
  rw [h1] at m2
  refine D15_of ?_
  unfold dgS
  iterate 49 (refine RunK.step (by simp [hp1, hp2, hq1, hq2, hp, hq, m1, m2, kb2, h]; first | rfl | exact ⟨k1, rfl⟩ | exact ⟨k2, rfl⟩) (by simp; rfl) (by kernel_rfl) ?_)
  exact RunK.done ⟨by kernel_rfl, by simp⟩
set_option maxRecDepth 100000 in
set_option maxHeartbeats 4000000 in
theorem way8 {X : Orc} (a b : List Item) (l : List Tri) (A B : List Int) (i : Nat) (p : Nat) (hp : p < a.length) (q : Nat) (hq : q < b.length) (x3 : Int) (h0 : A.contains (p : Int) = false) (h1 : B.contains (q : Int) = false) (h : a[p].amount = b[q].amount) : D15 X (EG a b l A B i (p : Int) (q : Int) x3) (EGb a b l A B i (p : Int) (q : Int) x3 false) := by
  have hp1 : ¬ (p : Int) < 0 := by omega
  have hp2 : ¬ (a.length : Int) ≤ (p : Int) := by omega
  have hq1 : ¬ (q : Int) < 0 := by omega
  have hq2 : ¬ (b.length : Int) ≤ (q : Int) := by omega
  have m1 := mfind_set (p : Int) A
  have k1 : ∀ x ∈ ints A, keyB 2 x = true := List.all_eq_true.1 (ints_keys A)
  have m2 := mfind_set (q : Int) B
  have k2 : ∀ x ∈ ints B, keyB 2 x = true := List.all_eq_true.1 (ints_keys B)
  rw [h0] at m1
  rw [h1] at m2
  refine D15_of ?_
  unfold dgS
  iterate 49 (refine RunK.step (by simp [hp1, hp2, hq1, hq2, hp, hq, m1, m2, kb2, h]; first | rfl | exact ⟨k1, rfl⟩ | exact ⟨k2, rfl⟩) (by simp; rfl) (by kernel_rfl) ?_)
  exact RunK.done ⟨by kernel_rfl, by simp⟩
end Go.Proofs.Ytmhpmghhgppdnaa
