/-
  The law on the trial balance.
-/
import Derived.Test.YtggmlfmhinafhaaEq5
import Derived.Test.YtggmlfmhinafhaaPl4
namespace Go.Proofs.Ytggmlfmhinafhaa
open Go.VM Go.RowKit
theorem all_i64 {l : List Entry} (ho : ∀ e ∈ l, e.ok) : ∀ x ∈ allL l, I64 x.amount := fun x hx => by
  obtain ⟨e, he, hx⟩ := List.mem_flatMap.1 hx
  obtain ⟨_, _, _, _, _, _, _, _, ⟨_, hl⟩, _⟩ := ho e he
  exact (hl x hx).2.1
theorem tr_len {l : List Entry} (h : fewB l = true) (ho : ∀ e ∈ l, e.ok) : (trF l).length ≤ 160000 := by
  rw [tr_ref l (all_i64 ho), List.length_map]
  have h1 := rtrS_len l [] fun e he => by have := few_legs h e he; omega
  have h2 := few_len h
  have h3 := List.length_filter_le nz3 (rtr3 l)
  unfold rtr3 at *
  rw [List.length_nil] at h1
  omega
theorem o5 (l : List Entry) (ho : ∀ e ∈ l, e.ok) : O XM 5 [.l (ents l)] = some (.b true) := by
  have h8 := o8 (X := XM) l
  have hlive := live
  refine orun (fc := code5) rfl rfl rfl ?_
  by_cases h : fewB l = true
  · have hj := few_jok h ho
    have h1 := few_len h
    have e22 := x22 hj
    have r23 := o23 (X := XM) l (by omega) (fun e he => by have := few_legs h e he; omega)
    have hlen := tr_len h ho
    rw [l3s_legs, ← tr_ref l (all_i64 ho)] at r23
    generalize trF l = t at e22 r23 hlen
    have s1 := o21 (X := XM) t t (by omega)
    rw [decide_eq_true rfl] at s1
    rw [h] at h8
    simp [code5, h8, e22, r23, s1, hlive]
  · rw [Bool.not_eq_true] at h
    rw [h] at h8
    simp [code5, h8, hlive]
end Go.Proofs.Ytggmlfmhinafhaa
