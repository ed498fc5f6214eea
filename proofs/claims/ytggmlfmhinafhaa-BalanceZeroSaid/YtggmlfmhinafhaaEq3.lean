/-
  The law on sums.
-/
import Derived.Test.YtggmlfmhinafhaaPl1
namespace Go.Proofs.Ytggmlfmhinafhaa
open Go.VM Go.RowKit
theorem x12 {l : List Entry} (h : jok l = true) (a : Int) : O XM 12 [.l (ents l), .i .i64 a] = some (.i .i64 (ofF a l)) := den_ext (by kernel_rfl) (by simp [XM, jof_enc h])
theorem x14 {l : List Entry} (h : jok l = true) (a bk vl : Int) : O XM 14 [.l (ents l), .i .i64 a, .i .i64 bk, .i .i64 vl] = some (.i .i64 (atF a bk vl l)) := den_ext (by kernel_rfl) (by simp [XM, jof_enc h])
theorem x10 {l : List Entry} (h : jok l = true) (a fr to : Int) : O XM 10 [.l (ents l), .i .i64 a, .i .i64 fr, .i .i64 to] = some (.t [.i .i64 (tuF a fr to l).1, .i .i64 (tuF a fr to l).2]) := den_ext (by kernel_rfl) (by simp [XM, jof_enc h])
theorem x17 {l : List Entry} (h : jok l = true) (a fr to : Int) : O XM 17 [.l (ents l), .i .i64 a, .i .i64 fr, .i .i64 to] = some (.ow 3 (ints (daF a fr to l))) := den_ext (by kernel_rfl) (by simp [XM, jof_enc h])
theorem x19 {l : List Entry} (h : jok l = true) (a : Int) : O XM 19 [.l (ents l), .i .i64 a] = some (.ow 3 (ints (moF a l))) := den_ext (by kernel_rfl) (by simp [XM, jof_enc h])
theorem x22 {l : List Entry} (h : jok l = true) : O XM 22 [.l (ents l)] = some (.ow 44 (encL Leg.v (trF l))) := den_ext (by kernel_rfl) (by simp [XM, jof_enc h])
theorem few_legs4 {l : List Entry} (h : fewB l = true) : ∀ e ∈ l, e.legs.length ≤ 4096 := fun e he => by have := few_legs h e he; omega
theorem o3 (l : List Entry) (q : Ask) (ho : ∀ e ∈ l, e.ok) : O XM 3 [.l (ents l), q.v] = some (.b true) := by
  have h8 := o8 (X := XM) l
  have hlive := live
  refine orun (fc := code3) rfl rfl rfl ?_
  obtain ⟨a, f, t⟩ := q
  by_cases h : fewB l = true
  · have hj := few_jok h ho
    have h1 := few_len h
    have h2 := few_legs4 h
    have e12 := x12 hj a
    have e14 := x14 hj a f t
    have e10 := x10 hj a f t
    have r13 := o13 (X := XM) l a (by omega) h2
    have r15 := o15 (X := XM) l a f t (by omega) h2
    have r11 := o11 (X := XM) l a f t (by omega) h2
    rw [of_ref] at e12
    rw [at_ref] at e14
    rw [tu_ref] at e10
    rw [h] at h8
    simp [code3, h8, e12, e14, e10, r13, r15, r11, hlive]
  · rw [Bool.not_eq_true] at h
    rw [h] at h8
    simp [code3, h8, hlive]
end Go.Proofs.Ytggmlfmhinafhaa
