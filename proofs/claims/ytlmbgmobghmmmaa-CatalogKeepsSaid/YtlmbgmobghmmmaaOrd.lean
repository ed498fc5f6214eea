/-
  Ascending lists, of numbers or of texts, and the search for their next element: plain laws, with no program in sight.
-/
import Derived.Test.YtlmbgmobghmmmaaTypes
import Derived.Sort.Walk0
namespace Go.Proofs.Ytlmbgmobghmmmaa
open Go.VM
/-- What is asked of an order. -/
class LinO (α : Type) where
  lt : α → α → Prop
  dec : ∀ x y, Decidable (lt x y)
  irr : ∀ x, ¬ lt x x
  tra : ∀ {x y z}, lt x y → lt y z → lt x z
  tri : ∀ x y, lt x y ∨ x = y ∨ lt y x
instance {α : Type} [LinO α] (x y : α) : Decidable (LinO.lt x y) := LinO.dec x y
instance intO : LinO Int := ⟨(· < ·), fun x y => inferInstance, fun x => Int.lt_irrefl x, fun h k => Int.lt_trans h k, fun x y => by omega⟩
instance strO : LinO (List UInt8) := ⟨(· < ·), fun x y => inferInstance, fun x => List.lt_irrefl x, fun h k => List.lt_trans h k, fun x y => by
  by_cases h : x < y
  · exact .inl h
  · by_cases h2 : y < x
    · exact .inr (.inr h2)
    · exact .inr (.inl (List.le_antisymm h2 h))⟩
@[simp] theorem lt_int (x y : Int) : LinO.lt x y = (x < y) := rfl
@[simp] theorem lt_str (x y : List UInt8) : LinO.lt x y = (x < y) := rfl
section
variable {α : Type} [LinO α]
/-- Does an element stand above the last one? -/
def aboveB (lo : Option α) (x : α) : Bool := match lo with
  | none => true
  | some y => decide (LinO.lt y x)
/-- Is it less than the one found so far? -/
def lessB (l : List α) (b : Option Nat) (x : α) : Bool := match b with
  | none => true
  | some k => match l[k]? with
    | none => false
    | some y => decide (LinO.lt x y)
/-- The place of the least element above, among the first i. -/
def best (l : List α) (lo : Option α) : Nat → Option Nat
  | 0 => none
  | i + 1 => match l[i]? with
    | none => best l lo i
    | some x => if aboveB lo x = true ∧ lessB l (best l lo i) x = true then some i else best l lo i
theorem best_succ (l : List α) (lo : Option α) {i : Nat} (hi : i < l.length) : best l lo (i + 1) = if aboveB lo l[i] = true ∧ lessB l (best l lo i) l[i] = true then some i else best l lo i := by
  conv => lhs; unfold best
  rw [List.getElem?_eq_getElem hi]
theorem best_spec (l : List α) (lo : Option α) : ∀ i, i ≤ l.length → match best l lo i with
    | none => ∀ j (hj : j < l.length), j < i → aboveB lo l[j] = false
    | some k => ∃ hk : k < l.length, k < i ∧ aboveB lo l[k] = true ∧ ∀ j (hj : j < l.length), j < i → aboveB lo l[j] = true → ¬ LinO.lt l[j] l[k]
  | 0, _ => fun j _ h => absurd h (by omega)
  | i + 1, h => by
    have ih := best_spec l lo i (by omega)
    have hi : i < l.length := h
    rw [best_succ l lo hi]
    cases hb : best l lo i with
    | none =>
      rw [hb] at ih
      simp only at ih
      cases ha : aboveB lo l[i] with
      | true =>
        simp only [lessB, and_self, if_true]
        refine ⟨hi, by omega, ha, fun j hj hji haj => ?_⟩
        by_cases hji' : j = i
        · subst hji'; exact LinO.irr _
        · rw [ih j hj (by omega)] at haj; cases haj
      | false =>
        simp only [Bool.false_eq_true, false_and, if_false]
        intro j hj hji
        by_cases hji' : j = i
        · subst hji'; exact ha
        · exact ih j hj (by omega)
    | some k =>
      rw [hb] at ih
      simp only at ih
      obtain ⟨hk, hki, hak, hmin⟩ := ih
      simp only [lessB, List.getElem?_eq_getElem hk]
      by_cases hc : aboveB lo l[i] = true ∧ decide (LinO.lt l[i] l[k]) = true
      · rw [if_pos hc]
        have hlt : LinO.lt l[i] l[k] := by simpa using hc.2
        refine ⟨hi, by omega, hc.1, fun j hj hji haj hlt2 => ?_⟩
        by_cases hji' : j = i
        · subst hji'; exact LinO.irr _ hlt2
        · exact hmin j hj (by omega) haj (LinO.tra hlt2 hlt)
      · rw [if_neg hc]
        refine ⟨hk, by omega, hak, fun j hj hji haj hlt => ?_⟩
        by_cases hji' : j = i
        · subst hji'
          exact hc ⟨haj, by simpa using hlt⟩
        · exact hmin j hj (by omega) haj hlt
/-- The last of the first k of an ascending list. -/
def lastOf (u : List α) (k : Nat) : Option α := if k = 0 then none else u[k - 1]?
theorem best_next {l u : List α} (ha : u.Pairwise LinO.lt) (hm : ∀ x, x ∈ u ↔ x ∈ l) {k : Nat} (hk : k < u.length) : ∃ j, ∃ hj : j < l.length, best l (lastOf u k) l.length = some j ∧ l[j] = u[k] := by
  have hs := best_spec l (lastOf u k) l.length (Nat.le_refl _)
  have habove : ∀ i (hi : i < u.length), aboveB (lastOf u k) u[i] = true ↔ k ≤ i := by
    intro i hi
    unfold lastOf
    by_cases h0 : k = 0
    · simp [h0, aboveB]
    · rw [if_neg h0, List.getElem?_eq_getElem (by omega : k - 1 < u.length)]
      simp only [aboveB, decide_eq_true_eq]
      constructor
      · intro h
        false_or_by_contra
        by_cases he : i = k - 1
        · subst he; exact LinO.irr _ h
        · exact LinO.irr _ (LinO.tra h (List.pairwise_iff_getElem.1 ha i (k - 1) hi (by omega) (by omega)))
      · intro h
        exact List.pairwise_iff_getElem.1 ha (k - 1) i (by omega) hi (by omega)
  obtain ⟨jk, hjk, hek⟩ := List.getElem_of_mem ((hm u[k]).1 (List.getElem_mem hk))
  cases hb : best l (lastOf u k) l.length with
  | none =>
    rw [hb] at hs
    simp only at hs
    have := hs jk hjk hjk
    rw [hek, (habove k hk).2 (Nat.le_refl _)] at this
    cases this
  | some j =>
    rw [hb] at hs
    simp only at hs
    obtain ⟨hj, _, haj, hmin⟩ := hs
    refine ⟨j, hj, rfl, ?_⟩
    have h1 := hmin jk hjk hjk (by rw [hek]; exact (habove k hk).2 (Nat.le_refl _))
    rw [hek] at h1
    obtain ⟨i, hi, hei⟩ := List.getElem_of_mem ((hm l[j]).2 (List.getElem_mem hj))
    rw [← hei] at haj h1 ⊢
    have hki := (habove i hi).1 haj
    by_cases he : i = k
    · subst he; rfl
    · exact absurd (List.pairwise_iff_getElem.1 ha k i hk hi (by omega)) h1
theorem best_end {l u : List α} (ha : u.Pairwise LinO.lt) (hm : ∀ x, x ∈ u ↔ x ∈ l) : best l (lastOf u u.length) l.length = none := by
  have hs := best_spec l (lastOf u u.length) l.length (Nat.le_refl _)
  cases hb : best l (lastOf u u.length) l.length with
  | none => rfl
  | some j =>
    rw [hb] at hs
    simp only at hs
    obtain ⟨hj, _, haj, _⟩ := hs
    exfalso
    obtain ⟨i, hi, hei⟩ := List.getElem_of_mem ((hm l[j]).2 (List.getElem_mem hj))
    rw [← hei] at haj
    unfold lastOf at haj
    rw [if_neg (by omega), List.getElem?_eq_getElem (by omega : u.length - 1 < u.length)] at haj
    simp only [aboveB, decide_eq_true_eq] at haj
    by_cases he : i = u.length - 1
    · subst he; exact LinO.irr _ haj
    · exact LinO.irr _ (LinO.tra haj (List.pairwise_iff_getElem.1 ha i (u.length - 1) hi (by omega) (by omega)))
end
theorem bl_eq (x y : List UInt8) : Op.bytesLess x y = decide (x < y) := Go.Proofs.bytesLess_eq x y
/-! ### Numbers, ascending, each once -/
def uni (a b : List Int) : List Int := Lib.compact (isort (a ++ b))
theorem compact_sorted (d : List Int) (hs : d.Pairwise (· ≤ ·)) : ∀ m, m ≤ d.length → (Lib.compactUpTo d.toArray m).Pairwise (· < ·) ∧ ∀ x, x ∈ Lib.compactUpTo d.toArray m ↔ x ∈ d.take m
  | 0, _ => by simp [Lib.compactUpTo]
  | m + 1, h => by
    obtain ⟨h1, h2⟩ := compact_sorted d hs m (by omega)
    have hm : m < d.length := h
    have hg : d.toArray[m]! = d[m] := by simp [getElem!_pos, hm]
    rw [Lib.compactUpTo_succ, List.take_succ_eq_append_getElem hm]
    have hle : ∀ j (hj : j < m), d[j] ≤ d[m] := fun j hj => List.pairwise_iff_getElem.1 hs j m (by omega) hm hj
    by_cases h0 : m = 0
    · subst h0
      have hk : Lib.keeps d.toArray 0 = true := Lib.keeps_lt_one _ 0 (by omega)
      rw [if_pos hk, hg]
      simp [Lib.compactUpTo]
    · have hm1 : m - 1 < d.length := by omega
      have hg1 : d.toArray[m - 1]! = d[m - 1] := by simp [getElem!_pos, hm1]
      by_cases he : d[m] = d[m - 1]
      · have hk : Lib.keeps d.toArray m = false := Lib.keeps_neg (by omega) (by rw [hg, hg1, he])
        rw [hk]
        simp only [Bool.false_eq_true, if_false, List.append_nil]
        refine ⟨h1, fun x => ?_⟩
        rw [h2, List.mem_append, List.mem_singleton]
        constructor
        · exact .inl
        · rintro (h | rfl)
          · exact h
          · rw [he]
            exact List.mem_take_iff_getElem.2 ⟨m - 1, by omega, rfl⟩
      · have hk : Lib.keeps d.toArray m = true := Lib.keeps_pos (by rw [hg, hg1]; exact he)
        rw [if_pos hk, hg]
        refine ⟨List.pairwise_append.2 ⟨h1, by simp, fun x hx y hy => ?_⟩, fun x => ?_⟩
        · rw [List.mem_singleton.1 hy]
          rw [h2, List.mem_take_iff_getElem] at hx
          obtain ⟨j, hj, rfl⟩ := hx
          have h3 := hle (m - 1) (by omega)
          by_cases hjm : j = m - 1
          · subst hjm; omega
          · have := List.pairwise_iff_getElem.1 hs j (m - 1) (by omega) hm1 (by omega)
            omega
        · rw [List.mem_append, List.mem_append, h2]
theorem uni_asc (a b : List Int) : (uni a b).Pairwise (· < ·) := (compact_sorted _ (isort_sorted _) _ (Nat.le_refl _)).1
theorem mem_uni {a b : List Int} {x : Int} : x ∈ uni a b ↔ x ∈ a ∨ x ∈ b := by
  have := (compact_sorted _ (isort_sorted (a ++ b)) _ (Nat.le_refl _)).2 x
  unfold uni Lib.compact
  rw [this, List.take_length, (isort_perm _).mem_iff, List.mem_append]
theorem uni_len (a b : List Int) : (uni a b).length ≤ a.length + b.length := by
  have := Lib.compact_length_le (isort (a ++ b))
  rw [(isort_perm _).length_eq, List.length_append] at this
  exact this
end Go.Proofs.Ytlmbgmobghmmmaa
