/-
  What lists keep when a direct debit is settled, returned or presented: plain facts, with no program in sight.
-/
import Derived.Test.YtoahbbpjhdegoaaDoorSpec5
namespace Go.Proofs.YtoahbbpjhdegoaaDoor
open Go.VM
theorem chkAt_ne0 (l : List Debit) (i : Nat) : chkAt l i ≠ some 0 := by
  unfold chkAt
  split
  · split
    · simp
    · split
      · simp
      · split <;> simp
  · simp
/-- What Check asks of each. -/
def Good (l : List Debit) (i : Nat) (hi : i < l.length) : Prop := goodB l[i] = true ∧ (∀ h : 0 < i, l[i - 1].id < l[i].id) ∧ l[i].key ∉ keys (l.take i)
theorem chkAt_none (l : List Debit) (i : Nat) (hi : i < l.length) : chkAt l i = none ↔ Good l i hi := by
  unfold chkAt Good
  rw [List.getElem?_eq_getElem hi]
  simp only
  have hp : (0 < i ∧ l[i].id ≤ ((l[i - 1]?).map Debit.id).getD 0) ↔ ¬ ∀ h : 0 < i, l[i - 1].id < l[i].id := by
    rw [List.getElem?_eq_getElem (by omega : i - 1 < l.length)]
    simp only [Option.map_some, Option.getD_some]
    constructor
    · rintro ⟨h1, h2⟩ h
      exact absurd (h h1) (Int.not_lt.2 h2)
    · intro h
      by_cases h0 : 0 < i
      · exact ⟨h0, Int.not_lt.1 fun hlt => h fun _ => hlt⟩
      · exact absurd (fun h' => absurd h' h0) h
  cases hg : goodB l[i] with
  | false => simp
  | true =>
    rw [if_neg (by simp)]
    by_cases h2 : 0 < i ∧ l[i].id ≤ ((l[i - 1]?).map Debit.id).getD 0
    · rw [if_pos h2]
      have h2' := hp.1 h2
      simp only [reduceCtorEq, false_iff]
      exact fun h => h2' h.2.1
    · rw [if_neg h2]
      have h2' : ∀ h : 0 < i, l[i - 1].id < l[i].id := Classical.not_not.1 fun h => h2 (hp.2 h)
      by_cases h3 : l[i].key ∈ keys (l.take i)
      · simp [h3]
      · rw [if_neg h3]
        exact ⟨fun _ => ⟨rfl, h2', h3⟩, fun _ => rfl⟩
theorem chk_zero (l : List Debit) : chk l = 0 ↔ l.length ≤ 64 ∧ ∀ i (hi : i < l.length), Good l i hi := by
  unfold chk
  by_cases h : 64 < l.length
  · rw [if_pos h]
    constructor
    · intro h'; cases h'
    · intro h'; omega
  · rw [if_neg h]
    constructor
    · intro h'
      refine ⟨by omega, fun i hi => ?_⟩
      rw [← chkAt_none]
      cases hq : (List.range l.length).findSome? (chkAt l) with
      | none => exact range_find_none.1 hq i hi
      | some n =>
        rw [hq] at h'
        simp only [Option.getD_some] at h'
        subst h'
        obtain ⟨j, _, hj⟩ := List.exists_of_findSome?_eq_some hq
        exact absurd hj (chkAt_ne0 l j)
    · rintro ⟨_, h'⟩
      have : (List.range l.length).findSome? (chkAt l) = none := range_find_none.2 fun i hi => (chkAt_none l i hi).2 (h' i hi)
      rw [this]; rfl
/-! ### One element changed -/
theorem set_map {α : Type} (f : Debit → α) {l : List Debit} {i : Nat} {y : Debit} (hi : i < l.length) (h : f y = f l[i]) : (l.set i y).map f = l.map f := by
  rw [List.map_set, h, ← List.getElem_map f (h := by simpa using hi)]
  exact List.set_getElem_self _
theorem set_at {α : Type} (f : Debit → α) {l : List Debit} {i : Nat} {y : Debit} (hi : i < l.length) (h : f y = f l[i]) (j : Nat) : ((l.set i y)[j]?).map f = (l[j]?).map f := by
  rw [← List.getElem?_map, ← List.getElem?_map, set_map f hi h]
theorem set_get {α : Type} (f : Debit → α) {l : List Debit} {i : Nat} {y : Debit} (hi : i < l.length) (h : f y = f l[i]) (j : Nat) (h1 : j < (l.set i y).length) (h2 : j < l.length) : f (l.set i y)[j] = f l[j] := by
  have := set_at f hi h j
  rw [List.getElem?_eq_getElem h1, List.getElem?_eq_getElem h2] at this
  exact Option.some.inj this
theorem pos_set {l : List Debit} {i : Nat} {y : Debit} (hi : i < l.length) (h : y.id = l[i].id) (id : Int) : pos (l.set i y) id = pos l id := by
  unfold pos
  rw [List.length_set]
  have : ∀ j, placeAt (l.set i y) id j = placeAt l id j := fun j => by
    unfold placeAt
    by_cases hj : j < l.length
    · rw [List.getElem?_eq_getElem hj, List.getElem?_eq_getElem (by simpa using hj)]
      simp only [set_get Debit.id hi h j (by simpa using hj) hj]
    · rw [List.getElem?_eq_none (show (l.set i y).length ≤ j by simpa using hj), List.getElem?_eq_none (show l.length ≤ j by omega)]
  rw [show placeAt (l.set i y) id = placeAt l id from funext this]
theorem keys_take_set {l : List Debit} {i : Nat} {y : Debit} (hi : i < l.length) (h : y.key = l[i].key) (j : Nat) : keys ((l.set i y).take j) = keys (l.take j) := by
  unfold keys
  rw [List.map_take, List.map_take, set_map Debit.key hi h]
theorem chk_set {l : List Debit} {i : Nat} {y : Debit} (hi : i < l.length) (h1 : y.id = l[i].id) (h2 : y.key = l[i].key) (hg : goodB y = true) (h : chk l = 0) : chk (l.set i y) = 0 := by
  rw [chk_zero] at h ⊢
  refine ⟨by simpa using h.1, fun j hj => ?_⟩
  have hj' : j < l.length := by simpa using hj
  have hjm : j - 1 < (l.set i y).length := Nat.lt_of_le_of_lt (Nat.sub_le _ _) hj
  obtain ⟨g1, g2, g3⟩ := h.2 j hj'
  refine ⟨?_, fun h0 => ?_, ?_⟩
  · by_cases hij : i = j
    · subst hij; rw [List.getElem_set_self]; exact hg
    · rw [List.getElem_set_ne hij]; exact g1
  · rw [set_get Debit.id hi h1 j hj hj', set_get Debit.id hi h1 (j - 1) hjm (Nat.lt_of_le_of_lt (Nat.sub_le _ _) hj')]
    exact g2 h0
  · rw [set_get Debit.key hi h2 j hj hj', keys_take_set hi h2]
    exact g3
theorem near_set {l : List Debit} {i : Nat} {y : Debit} {id : Int} (hi : i < l.length) (h0 : l[i].id = id) (h1 : y.id = l[i].id) (h2 : y.amount = l[i].amount) (h3 : y.key = l[i].key) (h4 : y.mandate = l[i].mandate) (h5 : y.day = l[i].day) : Near l (l.set i y) id := by
  refine ⟨by simp, fun j hj hj' => ?_⟩
  by_cases hij : i = j
  · subst hij
    rw [List.getElem_set_self]
    exact .inr ⟨⟨h0, h1.trans h0⟩, h2.symm, h3.symm, h4.symm, h5.symm⟩
  · rw [List.getElem_set_ne hij]; exact .inl rfl
theorem good_at {l : List Debit} (h : chk l = 0) {i : Nat} (hi : i < l.length) : goodB l[i] = true := ((chk_zero l).1 h).2 i hi |>.1
theorem fits_of {x : Debit} (h : goodB x = true) : fits x = true := by
  unfold goodB at h
  simp only [Bool.and_eq_true] at h
  exact h.2.2.2.2.2
theorem good_of {x y : Debit} (h : goodB x = true) (h1 : y.id = x.id) (h2 : y.mandate = x.mandate) (h3 : y.amount = x.amount) (h4 : y.day = x.day) (h5 : y.key = x.key) (h6 : fits y = true) : goodB y = true := by
  unfold goodB at h ⊢
  rw [h1, h2, h3, h4, h5, h6]
  simp only [Bool.and_eq_true] at h ⊢
  exact ⟨h.1, h.2.1, h.2.2.1, h.2.2.2.1, h.2.2.2.2.1, trivial⟩
theorem good_settled {x : Debit} {d e : Int} (h : goodB x = true) (hs : x.state = 1) (hd : validD d = true) : goodB (settledD x d e) = true := by
  have hf := fits_of h
  unfold fits at hf
  rw [if_pos hs] at hf
  simp only [Bool.and_eq_true, decide_eq_true_eq] at hf
  unfold settledD
  by_cases he : e = 0
  · rw [if_pos he]
    exact good_of h rfl rfl rfl rfl rfl (by simp [fits, hd, hf.1.2, hf.2])
  · rw [if_neg he]
    refine good_of h rfl rfl rfl rfl rfl ?_
    have h3 : 1 ≤ reason e ∧ reason e ≤ 3 := by unfold reason; rw [if_neg he]; split <;> (try split) <;> omega
    simp [fits, hf.1.1, hf.1.2, h3.1, h3.2]
theorem good_returned {x : Debit} {r d : Int} (h : goodB x = true) (hs : x.state = 2) (h1 : ¬ (((r < 1 ∨ 4 < r) ∨ validD d = false) ∨ d < x.settled)) (h2 : ¬ x.settled < IntKind.i64.wrap (d - window r)) : goodB (returnedD x r d) = true := by
  have hf := fits_of h
  unfold fits at hf
  rw [if_neg (by omega), if_pos hs] at hf
  simp only [Bool.and_eq_true, decide_eq_true_eq] at hf
  refine good_of h rfl rfl rfl rfl rfl ?_
  have k1 : 1 ≤ r := by false_or_by_contra; exact h1 (.inl (.inl (.inl (by omega))))
  have k2 : r ≤ 4 := by false_or_by_contra; exact h1 (.inl (.inl (.inr (by omega))))
  have k3 : validD d = true := by
    cases hv : validD d
    · exact absurd (.inl (.inr hv)) h1
    · rfl
  have k4 : x.settled ≤ d := by false_or_by_contra; exact h1 (.inr (by omega))
  have hw : 0 ≤ window r ∧ window r ≤ 395 := by unfold window; (repeat' split) <;> omega
  have v1 := hf.1.1
  have v2 := k3
  simp only [validD, Bool.and_eq_true, decide_eq_true_eq] at v1 v2
  have e1 : IntKind.i64.wrap (d - window r) = d - window r := wrap_i64 _ (by omega)
  have e2 : IntKind.i64.wrap (x.settled + window r) = x.settled + window r := wrap_i64 _ (by omega)
  rw [e1] at h2
  have k5 : d ≤ IntKind.i64.wrap (x.settled + window r) := by rw [e2]; omega
  simp [fits, returnedD, hf.1.1, k1, k2, k3, k4, k5]
/-! ### Settle, Return -/
/-- Settle answers no error: where, and what. -/
theorem setP_ok {l : List Debit} {id d e : Int} (h : (setP l id d e).2 = 0) : ∃ i, ∃ hi : i < l.length, pos l id = some i ∧ l[i].id = id ∧ l[i].state = 1 ∧ validD d = true ∧ setP l id d e = (l.set i (settledD l[i] d e), 0) := by
  unfold setP at h ⊢
  cases hp : pos l id with
  | none => rw [hp] at h; cases h
  | some i =>
    obtain ⟨hi, hid⟩ := pos_some hp
    rw [hp] at h
    simp only [List.getElem?_eq_getElem hi] at h ⊢
    by_cases c1 : l[i].state = 1
    · cases c2 : validD d with
      | false => rw [c2] at h; simp [c1] at h
      | true => exact ⟨i, hi, rfl, hid, c1, rfl, by simp [c1]⟩
    · simp [c1] at h
theorem setP_bad {l : List Debit} {id d e : Int} (h : (setP l id d e).2 ≠ 0) : (setP l id d e).1 = [] := by
  unfold setP at h ⊢
  split
  · rfl
  · rename_i i hp
    rw [hp] at h
    split
    · rename_i x hx
      simp only [hx] at h
      split
      · rfl
      · rename_i c1
        rw [if_neg c1] at h
        split
        · rfl
        · rename_i c2
          rw [if_neg c2] at h
          exact absurd rfl h
    · rfl
theorem setP_state {l : List Debit} {id d e : Int} {i : Nat} (hi : i < l.length) (hp : pos l id = some i) (h : l[i].state ≠ 1) : setP l id d e = ([], 17) := by
  simp [setP, hp, hi, h]
theorem retP_state {l : List Debit} {id r d : Int} {i : Nat} (hi : i < l.length) (hp : pos l id = some i) (h : l[i].state ≠ 2) : retP l id r d = ([], 17) := by
  simp [retP, hp, hi, h]
theorem retP_ok {l : List Debit} {id r d : Int} (h : (retP l id r d).2 = 0) : ∃ i, ∃ hi : i < l.length, pos l id = some i ∧ l[i].id = id ∧ l[i].state = 2 ∧ ¬ (((r < 1 ∨ 4 < r) ∨ validD d = false) ∨ d < l[i].settled) ∧ ¬ l[i].settled < IntKind.i64.wrap (d - window r) ∧ retP l id r d = (l.set i (returnedD l[i] r d), 0) := by
  unfold retP at h ⊢
  cases hp : pos l id with
  | none => rw [hp] at h; cases h
  | some i =>
    obtain ⟨hi, hid⟩ := pos_some hp
    rw [hp] at h
    simp only [List.getElem?_eq_getElem hi] at h ⊢
    by_cases c1 : l[i].state = 2
    · rw [if_neg (not_not_intro c1)] at h ⊢
      by_cases c2 : ((r < 1 ∨ 4 < r) ∨ validD d = false) ∨ d < l[i].settled
      · rw [if_pos c2] at h; cases h
      · rw [if_neg c2] at h ⊢
        by_cases c3 : l[i].settled < IntKind.i64.wrap (d - window r)
        · rw [if_pos c3] at h; cases h
        · rw [if_neg c3]
          exact ⟨i, hi, rfl, hid, c1, c2, c3, rfl⟩
    · rw [if_pos c1] at h; cases h
theorem retP_bad {l : List Debit} {id r d : Int} (h : (retP l id r d).2 ≠ 0) : (retP l id r d).1 = [] := by
  unfold retP at h ⊢
  split
  · rfl
  · rename_i i hp
    rw [hp] at h
    split
    · rename_i x hx
      simp only [hx] at h
      split
      · rfl
      · rename_i c1
        rw [if_neg c1] at h
        split
        · rfl
        · rename_i c2
          rw [if_neg c2] at h
          split
          · rfl
          · rename_i c3
            rw [if_neg c3] at h
            exact absurd rfl h
    · rfl
theorem kok_set {l : List Debit} {i : Nat} {y : Debit} (hi : i < l.length) (h : y.key = l[i].key) (hk : KOk l) : KOk (l.set i y) := by
  intro x hx
  obtain ⟨j, hj, rfl⟩ := List.getElem_of_mem hx
  have hj' : j < l.length := by simpa using hj
  rw [set_get Debit.key hi h j hj hj']
  exact hk _ (List.getElem_mem hj')
/-! ### Present -/
theorem presE_zero {l : List Debit} {ms : List Mandate} {x : Debit} {day : Int} (h : presE l ms x day = 0) : ready x day = true ∧ above l x = none ∧ x.key ∉ keys l ∧ l.length < 64 := by
  unfold presE at h
  split at h
  · cases h
  · rename_i h1
    split at h
    · cases h
    · rename_i h2
      split at h
      · cases h
      · rename_i h3
        split at h
        · rename_i h4; exact absurd h h4
        · split at h
          · cases h
          · split at h
            · cases h
            · rename_i h6
              refine ⟨by simpa using h1, by simpa using h2, h3, by omega⟩
theorem chk_append {l : List Debit} {x : Debit} (h : chk l = 0) (hl : l.length < 64) (ha : ∀ i (hi : i < l.length), l[i].id < x.id) (hk : x.key ∉ keys l) (hg : goodB x = true) : chk (l ++ [x]) = 0 := by
  rw [chk_zero] at h ⊢
  refine ⟨by simp; omega, fun i hi => ?_⟩
  by_cases hil : i < l.length
  · obtain ⟨g1, g2, g3⟩ := h.2 i hil
    refine ⟨?_, fun h0 => ?_, ?_⟩
    · rw [List.getElem_append_left hil]; exact g1
    · rw [List.getElem_append_left hil, List.getElem_append_left (by omega)]; exact g2 h0
    · rw [List.getElem_append_left hil, List.take_append_of_le_length (by omega)]; exact g3
  · have hil' : i = l.length := by simp at hi; omega
    subst hil'
    refine ⟨?_, fun h0 => ?_, ?_⟩
    · simpa using hg
    · rw [List.getElem_append_left (by omega)]; simpa using ha (l.length - 1) (by omega)
    · simpa using hk
end Go.Proofs.YtoahbbpjhdegoaaDoor
