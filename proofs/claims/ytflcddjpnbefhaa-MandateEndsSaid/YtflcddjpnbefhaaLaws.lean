/-
  The laws, over what the functions compute.
-/
import Derived.Test.YtflcddjpnbefhaaSpec3
namespace Go.Proofs.Ytflcddjpnbefhaa
open Go.VM
theorem e3 (l : List Mandate) : O 3 [.l (enc l)] = some (.b true) := by
  refine orun (fc := code3) rfl rfl rfl ?_
  cases h : shortB l <;> simp [code3, h, e10, e11, live]
theorem chk_ok {l : List Mandate} (h : chk l = 0) : l.length ≤ 64 ∧ ∀ i, i < l.length → cd l i = none := by
  refine ⟨chk_len h, fun i hi => ?_⟩
  unfold chk at h
  rw [if_neg (by have := chk_len h; omega)] at h
  cases hq : (List.range l.length).findSome? (cd l) with
  | none => exact range_find_none.1 hq i hi
  | some n =>
    rw [hq] at h
    simp only [optE] at h
    subst h
    obtain ⟨k, hk, hc⟩ := List.exists_of_findSome?_eq_some hq
    exfalso
    have hk' : k < l.length := List.mem_range.1 hk
    simp only [cd, List.getElem?_eq_getElem hk'] at hc
    split at hc
    · cases hc
    · split at hc
      · cases hc
      · split at hc <;> cases hc
theorem chk_of {l : List Mandate} (h1 : l.length ≤ 64) (h2 : ∀ i, i < l.length → cd l i = none) : chk l = 0 := by
  unfold chk
  rw [if_neg (by omega), range_find_none.2 h2]
  rfl
theorem cd_iff {l : List Mandate} {i : Nat} (hi : i < l.length) : cd l i = none ↔ good l[i] = true ∧ nameB l[i].creditor = true ∧ ∀ j, i = j + 1 → ∀ hj : j < l.length, l[j].id < l[i].id := by
  simp only [cd, List.getElem?_eq_getElem hi]
  cases hg : good l[i] with
  | false => simp
  | true =>
    cases hn : nameB l[i].creditor with
    | false => simp
    | true =>
      simp only [Bool.true_eq_false, if_false, true_and]
      constructor
      · intro h j hj hjl
        subst hj
        split at h
        · cases h
        · rename_i hc
          simp [hjl] at hc
          exact hc
      · intro h
        rw [if_neg]
        rintro ⟨h0, hle⟩
        have hj : i - 1 < l.length := by omega
        have := h (i - 1) (by omega) hj
        simp [hj] at hle
        omega
theorem chk_append {l : List Mandate} {m : Mandate} (h : chk l = 0) (hm : chk [m] = 0) (hlt : l.length < 64) (hid : ∀ hl : 0 < l.length, l[l.length - 1].id < m.id) : chk (l ++ [m]) = 0 := by
  obtain ⟨_, h2⟩ := chk_ok h
  obtain ⟨_, h3⟩ := chk_ok hm
  refine chk_of (by simp; omega) fun i hi => ?_
  rw [cd_iff hi]
  simp only [List.length_append, List.length_singleton] at hi
  by_cases hi' : i < l.length
  · have := (cd_iff hi').1 (h2 i hi')
    simp only [List.getElem_append_left hi']
    refine ⟨this.1, this.2.1, fun j hj hjl => ?_⟩
    have hj' : j < l.length := by omega
    rw [List.getElem_append_left hj']
    exact this.2.2 j hj hj'
  · have hie : i = l.length := by omega
    subst hie
    have := (cd_iff (by simp : 0 < [m].length)).1 (h3 0 (by simp))
    simp only [List.getElem_cons_zero] at this
    simp only [List.getElem_append_right (Nat.le_refl _), Nat.sub_self, List.getElem_cons_zero]
    refine ⟨this.1, this.2.1, fun j hj hjl => ?_⟩
    have hj' : j < l.length := by omega
    rw [List.getElem_append_left hj']
    have := hid (by omega)
    have e : l.length - 1 = j := by omega
    simpa only [e] using this
theorem signed_ok {l : List Mandate} {m : Mandate} (h : (signed l m).2 = 0) : signed l m = (l ++ [m], 0) ∧ chk (l ++ [m]) = 0 := by
  unfold signed at h ⊢
  split at h
  · simp at h
  · rename_i c1
    split at h
    · simp at h
    · rename_i c2
      split at h
      · simp at h
      · rename_i c3
        rw [if_neg c1, if_neg c2, if_neg c3]
        refine ⟨rfl, ?_⟩
        have k1 : chk l = 0 := by false_or_by_contra; exact c1 (.inl (.inl (.inl ‹_›)))
        have k2 : chk [m] = 0 := by false_or_by_contra; exact c1 (.inl (.inl (.inr ‹_›)))
        refine chk_append k1 k2 (by omega) fun hl => ?_
        have hk : l.length - 1 < l.length := by omega
        have : ¬ (m.id ≤ (l[l.length - 1]?.map Mandate.id).getD 0) := fun h => c2 ⟨hl, h⟩
        rw [List.getElem?_eq_getElem hk] at this
        simp at this
        exact this
theorem signed_len (l : List Mandate) (m : Mandate) (h : l.length ≤ 100) : (signed l m).1.length ≤ 101 := by
  unfold signed
  split
  · simp
  · split
    · simp
    · split
      · simp
      · simp; omega
set_option maxHeartbeats 4000000 in
theorem e4 (l : List Mandate) (m : Mandate) : O 4 [.l (enc l), m.v] = some (.b true) := by
  refine orun (fc := code4) rfl rfl rfl ?_
  cases hs : shortB l with
  | false => simp [code4, hs, live]
  | true =>
    by_cases hc : (100 : Int) < (m.creditor.length : Int)
    · simp [code4, hs, hc, live]
    · have hlen := short_len hs
      have h13 := e13 l m
      have h14 := e14 l m
      have hsl := signed_len l m hlen
      have hok := @signed_ok l m
      unfold resV' at h13 h14
      generalize signed l m = p at h13 h14 hsl hok
      obtain ⟨x, e⟩ := p
      simp only at h13 h14 hsl hok
      have h15 := e15 x hsl
      have h10 := e10 x
      by_cases he : e = 0
      · subst he
        obtain ⟨hx, hchk⟩ := hok rfl
        simp only [Prod.mk.injEq, and_true] at hx
        rw [hx, hchk] at h10
        rw [hx] at h13 h14 h15
        simp [code4, hs, hc, h13, h14, h15, h10, live]
      · simp [code4, hs, hc, h13, h14, h15, he, live]
theorem revoked_len (l : List Mandate) (id d : Int) (h : l.length ≤ 100) : (revoked l id d).1.length ≤ 101 := by
  unfold revoked
  split
  · simp
  · split
    · split
      · simp
      · split <;> simp; omega
    · simp
theorem used_len (l : List Mandate) (id d : Int) (h : l.length ≤ 100) : (used l id d).1.length ≤ 101 := by
  unfold used
  split
  · simp
  · split
    · split
      · simp
      · split <;> simp; omega
    · simp
set_option maxHeartbeats 4000000 in
theorem e5 (l : List Mandate) (id d : Int) : O 5 [.l (enc l), .i .i64 id, .i .i64 d] = some (.b true) := by
  refine orun (fc := code5) rfl rfl rfl ?_
  cases hs : shortB l with
  | false => simp [code5, hs, live]
  | true =>
    have hlen := short_len hs
    have h16 := e16 l id d hlen
    have h17 := e17 l id d hlen
    have h18 := e18 l id d hlen
    have h19 := e19 l id d hlen
    have s1 := e15 _ (revoked_len l id d hlen)
    have s2 := e15 _ (used_len l id d hlen)
    unfold resV' at h16 h17 h18 h19
    generalize revoked l id d = p at *
    generalize used l id d = q at *
    simp [code5, hs, h16, h17, h18, h19, s1, s2, live]
theorem l6 (l : List Mandate) (id a d : Int) (h : l.length ≤ 100) : loopK O [0, 3, 5] body6_1 [(0, .l (enc l)), (3, .bx [.i .i64 id, .i .i64 a, .i .i64 d]), (5, .i .i64 0)] = some (.e 0, [(0, .l (enc l)), (3, .bx [.i .i64 id, .i .i64 a, .i .i64 d])]) :=
  loopK_run (o := O) (kin := [0, 3, 5]) (c := body6_1) (fun i => [(0, .l (enc l)), (3, .bx [.i .i64 id, .i .i64 a, .i .i64 d]), (5, .i .i64 i)]) l.length _ (by simp) (fun i hi => by
    have hw := wrap_i64 (i + 1) (by omega)
    simp [body6_1, hi, hw]) (by simp [body6_1]) (by simp)
theorem e6 (l : List Mandate) (id a d : Int) : O 6 [.l (enc l), .a [.i .i64 id, .i .i64 a, .i .i64 d]] = some (.b true) := by
  refine orun (fc := code6) rfl rfl rfl ?_
  cases hs : shortB l with
  | false => simp [code6, hs, live]
  | true =>
    have hlen := short_len hs
    simp [code6, hs, exec_loopK, l6 l id a d hlen, e22 l id a d (by omega), e23 l id a d (by omega), live]
end Go.Proofs.Ytflcddjpnbefhaa
