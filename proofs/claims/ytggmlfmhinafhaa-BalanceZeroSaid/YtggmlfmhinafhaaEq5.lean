/-
  The law on days.
-/
import Derived.Test.YtggmlfmhinafhaaEq3
import Derived.Test.YtggmlfmhinafhaaPl2
import Derived.Test.YtggmlfmhinafhaaPl3
namespace Go.Proofs.Ytggmlfmhinafhaa
open Go.VM Go.RowKit
theorem mo_len2 (a : Int) (l : List Entry) : (moF a l).length ≤ l.length := by
  rw [mo_ref]
  have := rmoS_len a l []
  simpa [rmoF] using this
theorem o4 (l : List Entry) (q : Ask) (ho : ∀ e ∈ l, e.ok) (hq : q.ok) : O XM 4 [.l (ents l), q.v] = some (.b true) := by
  have h8 := o8 (X := XM) l
  have hlive := live
  refine orun (fc := code4) rfl rfl rfl ?_
  obtain ⟨a, f, t⟩ := q
  obtain ⟨_, hf, ht⟩ := hq
  by_cases h : fewB l = true
  · have hj := few_jok h ho
    have h1 := few_len h
    have h2 := few_legs4 h
    have e17 := x17 hj a f t
    have e19 := x19 hj a
    have r18 := o18 (X := XM) l a f t (by omega) h2 hf ht
    have r20 := o20 (X := XM) l a (by omega) h2
    have hdl := da_len a f t l
    have hml := mo_len2 a l
    rw [← da_ref] at r18
    rw [← mo_ref] at r20
    generalize daF a f t l = d at e17 r18 hdl
    generalize moF a l = m at e19 r20 hml
    have s1 := o16 (X := XM) d d (by omega)
    have s2 := o16 (X := XM) m m (by omega)
    rw [decide_eq_true rfl] at s1 s2
    rw [h] at h8
    simp [code4, h8, e17, e19, r18, r20, s1, s2, hlive]
  · rw [Bool.not_eq_true] at h
    rw [h] at h8
    simp [code4, h8, hlive]
end Go.Proofs.Ytggmlfmhinafhaa
