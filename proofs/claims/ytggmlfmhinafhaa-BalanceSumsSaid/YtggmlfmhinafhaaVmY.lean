/-
  A region that draws its order and whose operations yield the same values in whatever order: by what the world holds at each stage. No program is named here.
-/
import Derived.Test.YtggmlfmhinafhaaVmX
set_option linter.unusedSectionVars false
namespace Go.VM
open Go.RowKit
section
variable {P : Program}
/-- What the slots hold once some of a region's operations have been carried out. -/
def TmOk (ds : Nat → Option Nat) (val : Nat → Value) (a0 : Act) (l : Array Bool) (a : Act) : Prop :=
  a.tmps.size = a0.tmps.size ∧ a.defers = a0.defers ∧ (∀ i n, Ex1 l i → ds i = some n → tm a n = some (val i)) ∧ ∀ n, (∀ i, Ex1 l i → ds i ≠ some n) → tm a n = tm a0 n
theorem Outc.imp {r : Result Next} {K K' : Value → World → Prop} (h : Outc P r K) (hK : ∀ u w, K u w → K' u w) : Outc P r K' := by
  unfold Outc at *
  split at h
  · exact hK _ _ h
  · exact hK _ _ h
  · exact h.mono fun e w' ⟨v, he, hv⟩ => ⟨v, he, hK _ _ hv⟩
  · exact h.elim
theorem regV [Glob] (hm : P.follows .mixedOrders = true) {id : Nat} {ops : Array Oper} {ds : Nat → Option Nat} {val : Nat → Value} {a0 : Act} (Wd : Array Bool → World → Prop)
    (hinj : ∀ i j n, ds i = some n → ds j = some n → i = j) (hlt : ∀ i n, ds i = some n → n < a0.tmps.size)
    (hds : ∀ (i : Nat) op, ops.toList[i]? = some op → op.dst = ds i ∧ op.guard = none)
    (hop : ∀ (i : Nat) op, ops.toList[i]? = some op → ∀ l : Array Bool, l.size = ops.toList.length → ¬ Ex1 l i → (∀ j ∈ aft op, Ex1 l j) → (∀ (k : Nat) op', ops.toList[k]? = some op' → Ex1 l k → ∀ j ∈ aft op', Ex1 l j) → ∀ a w, TmOk ds val a0 l a → Wd l w →
      Outc P ((execOp a.eval op).run P w) fun u w1 => (ds i = none ∨ u = val i) ∧ Wd (l.setIfInBounds i true) w1)
    (hacy : ((List.range ops.size).all fun i => match ops[i]? with | some o => (aft o).all fun j => decide (j < i) | none => false) = true) {w : World}
    (hF : Wd (Array.replicate ops.size false) { w with drawn := w.drawn + 1 }) {Q : Exit → Act → World → Prop} (hQ : ∀ l a' w', (∀ i, i < ops.size → Ex1 l i) → TmOk ds val a0 l a' → Wd l w' → Q .normal a' w') :
    (Code.region id ops true).wp P Q a0 w := by
  refine regI hm (fun l a w => TmOk ds val a0 l a ∧ Wd l w) (fun i op hi l hl hne haft hcl a w ⟨hT, hW⟩ => ?_) hacy ⟨⟨rfl, rfl, fun i n h => ?_, fun n _ => rfl⟩, hF⟩ (fun l a' w' hl h => hQ l a' w' hl h.1 h.2)
  · obtain ⟨hd, hg⟩ := hds i op hi
    refine ⟨by simp [Region.wanted, hg], (hop i op hi l hl hne haft hcl a w hT hW).imp fun u w1 ⟨hu, hw⟩ => ⟨?_, hw⟩⟩
    have hil : i < l.size := by rw [hl]; exact (List.getElem?_eq_some_iff.1 hi).1
    rw [hd]
    cases hdi : ds i with
    | none =>
      refine ⟨hT.1, hT.2.1, fun k n hk hn => ?_, fun n hn => ?_⟩
      · rcases (ex1_set hil k).1 hk with rfl | hk
        · rw [hdi] at hn; cases hn
        · exact hT.2.2.1 k n hk hn
      · exact hT.2.2.2 n fun k hk => hn k ((ex1_set hil k).2 (.inr hk))
    | some d =>
      have hda : d < a.tmps.size := by rw [hT.1]; exact hlt i d hdi
      have hu : u = val i := by
        rcases hu with h | h
        · rw [hdi] at h; cases h
        · exact h
      subst hu
      refine ⟨by simpa [Act.put] using hT.1, hT.2.1, fun k n hk hn => ?_, fun n hn => ?_⟩
      · rw [tm_put hda]
        rcases (ex1_set hil k).1 hk with rfl | hk
        · rw [hdi] at hn; cases hn; simp
        · rw [if_neg fun e => by subst e; exact hne (hinj i k n hdi hn ▸ hk)]
          exact hT.2.2.1 k n hk hn
      · rw [tm_put hda, if_neg fun e => hn i ((ex1_set hil i).2 (.inl rfl)) (by rw [hdi, e])]
        exact hT.2.2.2 n fun k hk => hn k ((ex1_set hil k).2 (.inr hk))
  · unfold Ex1 at h
    simp only [Array.getD_eq_getD_getElem?, Array.getElem?_replicate] at h
    split at h <;> simp at h
/-- The slots, once all has been carried out: as if the operations had been carried out one behind the other. -/
theorem TmOk.all [Glob] {ds : Nat → Option Nat} {val : Nat → Value} {a0 : Act} {l : Array Bool} {a : Act} (h : TmOk ds val a0 l a) {n : Nat} (hl : ∀ i, i < n → Ex1 l i) (hn : ∀ i, n ≤ i → ds i = none) (hinj : ∀ i j n, ds i = some n → ds j = some n → i = j) (hlt : ∀ i n, ds i = some n → n < a0.tmps.size) :
    a = (List.range n).foldl (fun a i => a.put (ds i) (val i)) a0 := by
  have key : ∀ m, m ≤ n → ∃ b : Act, b = (List.range m).foldl (fun a i => a.put (ds i) (val i)) a0 ∧ b.tmps.size = a0.tmps.size ∧ b.defers = a0.defers ∧ (∀ i k, i < m → ds i = some k → tm b k = some (val i)) ∧ ∀ k, (∀ i, i < m → ds i ≠ some k) → tm b k = tm a0 k := by
    intro m
    induction m with
    | zero => exact fun _ => ⟨_, rfl, rfl, rfl, fun i k hi => by omega, fun _ _ => rfl⟩
    | succ m ih =>
      intro hm
      obtain ⟨b, hb, b1, b2, b3, b4⟩ := ih (by omega)
      refine ⟨b.put (ds m) (val m), by rw [List.range_succ, List.foldl_append, ← hb]; rfl, ?_, ?_, fun i k hi hk => ?_, fun k hk => ?_⟩
      · cases ds m <;> simpa [Act.put] using b1
      · cases ds m <;> exact b2
      · cases hd : ds m with
        | none =>
          by_cases him : i = m
          · subst him; rw [hd] at hk; cases hk
          · exact b3 i k (by omega) hk
        | some d =>
          rw [tm_put (by rw [b1]; exact hlt m d hd)]
          by_cases him : i = m
          · subst him; rw [hd] at hk; cases hk; simp
          · rw [if_neg fun e => him (hinj i m k hk (by rw [hd, e]))]
            exact b3 i k (by omega) hk
      · cases hd : ds m with
        | none => exact b4 k fun i hi => hk i (by omega)
        | some d =>
          rw [tm_put (by rw [b1]; exact hlt m d hd), if_neg fun e => hk m (by omega) (by rw [hd, e])]
          exact b4 k fun i hi => hk i (by omega)
  obtain ⟨b, hb, b1, b2, b3, b4⟩ := key n (Nat.le_refl _)
  rw [← hb]
  have ht : a.tmps = b.tmps := by
    apply Array.ext (by rw [h.1, b1])
    intro k hk1 hk2
    have hkk : tm a k = tm b k := by
      by_cases hex : ∃ i, i < n ∧ ds i = some k
      · obtain ⟨i, hi, hd⟩ := hex
        rw [h.2.2.1 i k (hl i hi) hd, b3 i k hi hd]
      · have hin : ∀ i, ds i = some k → i < n := fun i hd => by
          rcases Nat.lt_or_ge i n with h1 | h1
          · exact h1
          · rw [hn i h1] at hd; cases hd
        rw [h.2.2.2 k fun i _ hd => hex ⟨i, hin i hd, hd⟩, b4 k fun i hi hd => hex ⟨i, hi, hd⟩]
    unfold tm at hkk
    rw [Array.getElem?_eq_getElem hk1, Array.getElem?_eq_getElem hk2] at hkk
    exact Option.some.inj hkk
  have hd : a.defers = b.defers := h.2.1.trans b2.symm
  cases a; cases b
  simp only at ht hd
  rw [ht, hd]
end
end Go.VM
