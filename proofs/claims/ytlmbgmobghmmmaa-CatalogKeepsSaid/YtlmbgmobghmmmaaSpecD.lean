/-
  The laws: any version is added to any list.
-/
import Derived.Test.YtlmbgmobghmmmaaSpecA
import Derived.Test.YtlmbgmobghmmmaaSpecB
import Derived.Test.YtlmbgmobghmmmaaSpecC
namespace Go.Proofs.Ytlmbgmobghmmmaa
open Go.VM
theorem mid_get {α : Type} (l : List α) (p : α) {lb : Nat} (h : lb ≤ l.length) (i : Nat) : (l.take lb ++ p :: l.drop lb)[i]? = if i < lb then l[i]? else if i = lb then some p else l[i - 1]? := by
  have hl : (l.take lb).length = lb := by simp; omega
  by_cases h1 : i < lb
  · rw [if_pos h1, List.getElem?_append_left (by omega), List.getElem?_take, if_pos h1]
  · rw [if_neg h1, List.getElem?_append_right (by omega), hl]
    by_cases h2 : i = lb
    · subst h2; simp
    · rw [if_neg h2]
      obtain ⟨j, rfl⟩ : ∃ j, i = lb + 1 + j := ⟨i - lb - 1, by omega⟩
      rw [show lb + 1 + j - lb = j + 1 from by omega, List.getElem?_cons_succ, List.getElem?_drop, show lb + 1 + j - 1 = lb + j from by omega]
theorem bef_total {a b : Product} (h1 : befB a b = false) (h2 : ¬ (a.name = b.name ∧ a.from' = b.from')) : befB b a = true := by
  rw [bef_iff]
  have h1' : ¬ (a.name < b.name ∨ (a.name = b.name ∧ a.from' < b.from')) := fun h => by rw [(bef_iff a b).2 h] at h1; cases h1
  rcases tri_s a.name b.name with ⟨h, _, _⟩ | ⟨h, _, _⟩ | ⟨h, _, _⟩
  · exact absurd (.inl h) h1'
  · refine .inr ⟨h.symm, ?_⟩
    have g1 : ¬ a.from' < b.from' := fun g => h1' (.inr ⟨h, g⟩)
    have g2 : ¬ a.from' = b.from' := fun g => h2 ⟨h, g⟩
    omega
  · exact .inl h
theorem dup_none {l : List Product} {p : Product} (h : dupS l p = none) {q : Product} (hq : q ∈ l) : ¬ (q.name = p.name ∧ q.from' = p.from') := by
  obtain ⟨i, hi, rfl⟩ := List.getElem_of_mem hq
  intro hc
  have := range_find_none.1 h i hi
  simp only [dupB, List.getElem?_eq_getElem hi, if_pos hc] at this
  cases this
theorem oth_none {l : List Product} {p : Product} (h : othS l p = false) {q : Product} (hq : q ∈ l) (hn : q.name = p.name) : q.currency = p.currency := by
  unfold othS at h
  rw [List.any_eq_false] at h
  have := h q hq
  unfold othB at this
  simp only [hn, decide_true, Bool.true_and, Bool.not_eq_true', Bool.not_eq_false] at this
  simpa using this
/-- What is added stands in order. -/
theorem chk_add {l : List Product} {p : Product} (hc : chk l = 0) (hd : dupS l p = none) (ho : othS l p = false) (h64 : l.length < 64) : chk (l.take (lbP l p) ++ p :: l.drop (lbP l p)) = 0 := by
  obtain ⟨hord, _, hcur⟩ := chk_zero hc
  have hs := lb_split hord p
  have hg := fun i => mid_get l p hs.1 i
  have hlen : (l.take (lbP l p) ++ p :: l.drop (lbP l p)).length = l.length + 1 := by
    have := hs.1
    simp; omega
  generalize hlb : lbP l p = lb at hs hg hlen ⊢
  generalize hm : l.take lb ++ p :: l.drop lb = m at hg hlen ⊢
  have hcl : ∀ i (hi : i + 1 < l.length), l[i + 1].name = l[i].name → l[i + 1].currency = l[i].currency := fun i hi hn => by
    have := range_find_none.1 hcur i (by omega)
    have hi0 : i < l.length := by omega
    simp only [curB, List.getElem?_eq_getElem hi0, List.getElem?_eq_getElem hi] at this
    false_or_by_contra
    rename_i hne
    rw [if_pos ⟨hn, hne⟩] at this
    cases this
  have pairs : ∀ i, i + 1 < m.length → ∃ a b, m[i]? = some a ∧ m[i + 1]? = some b ∧ befB a b = true ∧ (b.name = a.name → b.currency = a.currency) := by
    intro i hi
    by_cases h1 : i + 1 < lb
    · have hi1 : i + 1 < l.length := by have := hs.1; omega
      have hi0 : i < l.length := by omega
      exact ⟨l[i], l[i + 1], by rw [hg, if_pos (by omega), List.getElem?_eq_getElem hi0], by rw [hg, if_pos h1, List.getElem?_eq_getElem hi1], hord _ _ _ _ (by omega), hcl i hi1⟩
    · by_cases h2 : i + 1 = lb
      · have hi0 : i < l.length := by have := hs.1; omega
        exact ⟨l[i], p, by rw [hg, if_pos (by omega), List.getElem?_eq_getElem hi0], by rw [hg, if_neg (by omega), if_pos h2], hs.2.1 i hi0 (by omega), fun hn => (oth_none ho (List.getElem_mem hi0) hn.symm).symm⟩
      · by_cases h3 : i = lb
        · have hi0 : i < l.length := by omega
          refine ⟨p, l[i], by rw [hg, if_neg (by omega), if_pos h3], by rw [hg, if_neg (by omega), if_neg (by omega), Nat.add_sub_cancel, List.getElem?_eq_getElem hi0], ?_, fun hn => oth_none ho (List.getElem_mem hi0) hn⟩
          exact bef_total (hs.2.2 i hi0 (by omega)) (dup_none hd (List.getElem_mem hi0))
        · obtain ⟨j, rfl⟩ : ∃ j, i = j + 1 := ⟨i - 1, by omega⟩
          have hi1 : j + 1 < l.length := by omega
          have hi0 : j < l.length := by omega
          exact ⟨l[j], l[j + 1], by rw [hg, if_neg (by omega), if_neg h3, Nat.add_sub_cancel, List.getElem?_eq_getElem hi0], by rw [hg, if_neg (by omega), if_neg (by omega), Nat.add_sub_cancel, List.getElem?_eq_getElem hi1], hord _ _ _ _ (by omega), hcl j hi1⟩
  have e1 : ordS m = none := range_find_none.2 fun i hi => by
    obtain ⟨a, b, ha, hb, hx, _⟩ := pairs i (by omega)
    simp only [ordB, ha, hb, hx, if_true]
  have e2 : curS m = none := range_find_none.2 fun i hi => by
    obtain ⟨a, b, ha, hb, _, hx⟩ := pairs i (by omega)
    simp only [curB, ha, hb]
    rw [if_neg]
    rintro ⟨h1, h2⟩
    exact h2 (hx h1)
  unfold chk
  rw [if_neg (by omega), e1, e2]; rfl
/-- What comes of an addition. -/
theorem addR_cases (l : List Product) (p : Product) : (∃ e : Int, e ≠ 0 ∧ addR l p = ([], e)) ∨ (chk l = 0 ∧ dupS l p = none ∧ othS l p = false ∧ l.length < 64 ∧ addR l p = (l.take (lbP l p) ++ p :: l.drop (lbP l p), 0)) := by
  unfold addR
  by_cases h1 : chk l = 0
  · rw [if_neg (by simp [h1])]
    cases h2 : dupS l p with
    | some u => exact .inl ⟨12, by decide, by simp⟩
    | none =>
      cases h3 : othS l p with
      | true => exact .inl ⟨14, by decide, by simp⟩
      | false =>
        by_cases h4 : 64 ≤ l.length
        · exact .inl ⟨5, by decide, by simp [h4]⟩
        · exact .inr ⟨h1, rfl, rfl, by omega, by simp [h4]⟩
  · rw [if_pos h1]; exact .inl ⟨1, by decide, rfl⟩
theorem mid_mem {l : List Product} {p q : Product} {lb : Nat} (h : q ∈ l.take lb ++ p :: l.drop lb) : q = p ∨ q ∈ l := by
  rcases List.mem_append.1 h with h | h
  · exact .inr (List.mem_of_mem_take h)
  · rcases List.mem_cons.1 h with h | h
    · exact .inl h
    · exact .inr (List.mem_of_mem_drop h)
theorem mid_len (l : List Product) (p : Product) (lb : Nat) (h : lb ≤ l.length) : (l.take lb ++ p :: l.drop lb).length = l.length + 1 := by simp; omega
theorem one_enc (p : Product) : encL Product.v [p] = [p.v] := rfl
theorem lbP_le (l : List Product) (p : Product) : lbP l p ≤ l.length := (List.takeWhile_prefix _).length_le
theorem e4 (l : List Product) (hl : l.length ≤ maxLen) (p : Product) : O 4 [.l (encL Product.v l), p.v] = some (.b true) := by
  refine orun (fc := code4) rfl rfl rfl ?_
  have h9 := e9 l hl
  have h9p := e9 [p] (by show 1 ≤ maxLen; unfold maxLen; omega)
  rw [one_enc] at h9p
  cases hb : lightB l <;> rw [hb] at h9
  · simp [code4, h9, live]
  · cases hbp : lightB [p] <;> rw [hbp] at h9p
    · simp [code4, h9, h9p, live]
    · have h100 := lightB_len hb
      have h13 := e13 l p (by omega)
      have h14 := e14 l p (by omega)
      have hlt : ∀ q ∈ l, Lite q := fun q hq => lite_of hb hq
      have hlp : Lite p := lite_of hbp (List.mem_singleton.2 rfl)
      rcases addR_cases l p with ⟨e, he, hr⟩ | ⟨hc, hd, ho, h64, hr⟩
      · rw [hr] at h13 h14
        have h15 := e15 [] (by simp) (by intro q hq; cases hq)
        simp only [resA] at h13 h14
        have hn : encL Product.v [] = [] := rfl
        rw [hn] at h13 h14 h15
        simp [code4, h9, h9p, h13, h14, h15, he, live]
      · rw [hr] at h13 h14
        have hchk := chk_add hc hd ho h64
        have hml := mid_len l p (lbP l p) (lbP_le l p)
        have h15 := e15 (l.take (lbP l p) ++ p :: l.drop (lbP l p)) (by omega) (fun q hq => by
          rcases mid_mem hq with rfl | hq
          · exact hlp
          · exact hlt q hq)
        have h10 := e10 (l.take (lbP l p) ++ p :: l.drop (lbP l p)) (by omega)
        rw [hchk] at h10
        simp only [resA] at h13 h14
        generalize encL Product.v (l.take (lbP l p) ++ p :: l.drop (lbP l p)) = M at h13 h14 h15 h10
        generalize encL Product.v l = L at h9 h13 h14 ⊢
        simp [code4, h9, h9p, h13, h14, h15, h10, live]
end Go.Proofs.Ytlmbgmobghmmmaa
