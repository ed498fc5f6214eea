/-
  The days on which an account moved are as the reference says.
-/
import Derived.Test.YtggmlfmhinafhaaPl1
import Derived.Test.YtggmlfmhinafhaaEq2
namespace Go.Proofs.Ytggmlfmhinafhaa
open Go.VM Go.RowKit
theorem compact_sorted (d : List Int) (hs : d.Pairwise (· ≤ ·)) : ∀ m, m ≤ d.length → (Lib.compactUpTo d.toArray m).Pairwise (· < ·) ∧ ∀ x, x ∈ Lib.compactUpTo d.toArray m ↔ x ∈ d.take m
  | 0, _ => by simp [Lib.compactUpTo]
  | m + 1, h => by
    obtain ⟨h1, h2⟩ := compact_sorted d hs m (by omega)
    have hm : m < d.length := h
    have hg : d.toArray[m]! = d[m] := by simp [getElem!_pos, hm]
    rw [Lib.compactUpTo_succ, List.take_succ_eq_append_getElem hm]
    have hle : ∀ j (hj : j < m), d[j] ≤ d[m] := fun j hj => List.pairwise_iff_getElem.1 hs j m (by omega) hm hj
    by_cases h0 : m = 0
    · subst h0
      have hk : Lib.keeps d.toArray 0 = true := Lib.keeps_lt_one _ 0 (by omega)
      rw [if_pos hk, hg]
      simp [Lib.compactUpTo]
    · have hm1 : m - 1 < d.length := by omega
      have hg1 : d.toArray[m - 1]! = d[m - 1] := by simp [getElem!_pos, hm1]
      by_cases he : d[m] = d[m - 1]
      · have hk : Lib.keeps d.toArray m = false := Lib.keeps_neg (by omega) (by rw [hg, hg1, he])
        rw [hk]
        simp only [Bool.false_eq_true, if_false, List.append_nil]
        refine ⟨h1, fun x => ?_⟩
        rw [h2, List.mem_append, List.mem_singleton]
        constructor
        · exact .inl
        · rintro (h | rfl)
          · exact h
          · rw [he]
            exact List.mem_take_iff_getElem.2 ⟨m - 1, by omega, rfl⟩
      · have hk : Lib.keeps d.toArray m = true := Lib.keeps_pos (by rw [hg, hg1]; exact he)
        rw [if_pos hk, hg]
        refine ⟨List.pairwise_append.2 ⟨h1, by simp, fun x hx y hy => ?_⟩, fun x => ?_⟩
        · rw [List.mem_singleton.1 hy]
          rw [h2, List.mem_take_iff_getElem] at hx
          obtain ⟨j, hj, rfl⟩ := hx
          have h3 := hle (m - 1) (by omega)
          by_cases hjm : j = m - 1
          · subst hjm; omega
          · have := List.pairwise_iff_getElem.1 hs j (m - 1) (by omega) hm1 (by omega)
            omega
        · rw [List.mem_append, List.mem_append, h2]
theorem mo_asc (a : Int) (l : List Entry) : (moF a l).Pairwise (· < ·) := (compact_sorted _ (isort_sorted _) _ (Nat.le_refl _)).1
theorem mem_mo {a : Int} {l : List Entry} {x : Int} : x ∈ moF a l ↔ ∃ e ∈ l, hasA a e = true ∧ e.value = x := by
  have := (compact_sorted _ (isort_sorted ((mv a l).map fun x => x.1.value)) _ (Nat.le_refl _)).2 x
  unfold moF Lib.compact
  rw [this, List.take_length, (isort_perm _).mem_iff]
  simp only [mv, List.mem_map, List.mem_flatMap, List.mem_filter, hasA, List.any_eq_true]
  constructor
  · rintro ⟨p, ⟨e, he, y, hy, rfl⟩, rfl⟩
    exact ⟨e, he, ⟨y, hy⟩, rfl⟩
  · rintro ⟨e, he, ⟨y, hy⟩, rfl⟩
    exact ⟨_, ⟨e, he, y, hy, rfl⟩, rfl⟩
theorem mo_len (a : Int) (l : List Entry) : (moF a l).length ≤ (mv a l).length := by
  have := Lib.compact_length_le (isort ((mv a l).map fun x => x.1.value))
  rw [(isort_perm _).length_eq, List.length_map] at this
  exact this
theorem asc_unique : ∀ {l k : List Int}, l.Pairwise (· < ·) → k.Pairwise (· < ·) → (∀ x, x ∈ l ↔ x ∈ k) → l = k
  | [], [], _, _, _ => rfl
  | [], y :: k, _, _, h => absurd ((h y).2 (List.mem_cons_self ..)) (by simp)
  | x :: l, [], _, _, h => absurd ((h x).1 (List.mem_cons_self ..)) (by simp)
  | x :: l, y :: k, h1, h2, h => by
    rw [List.pairwise_cons] at h1 h2
    have hxy : x = y := by
      rcases List.mem_cons.1 ((h x).1 (List.mem_cons_self ..)) with e | hx
      · exact e
      · rcases List.mem_cons.1 ((h y).2 (List.mem_cons_self ..)) with e | hy
        · exact e.symm
        · have := h2.1 x hx
          have := h1.1 y hy
          omega
    subst hxy
    rw [asc_unique h1.2 h2.2 fun z => ?_]
    constructor
    · intro hz
      rcases List.mem_cons.1 ((h z).1 (List.mem_cons_of_mem _ hz)) with e | hz'
      · have := h1.1 z hz; omega
      · exact hz'
    · intro hz
      rcases List.mem_cons.1 ((h z).2 (List.mem_cons_of_mem _ hz)) with e | hz'
      · have := h2.1 z hz; omega
      · exact hz'
theorem rmoI_spec (out : List Int) (v : Int) (h : out.Pairwise (· < ·)) : (rmoI out v).Pairwise (· < ·) ∧ ∀ x, x ∈ rmoI out v ↔ x ∈ out ∨ x = v := by
  have hle := dnI_le out v out.length
  have hat := dnI_at out v out.length
  have hgt := dnI_gt out v out.length
  unfold rmoI
  generalize dnI out v out.length = d at hle hat hgt ⊢
  have hg : ∀ k (hk : k < out.length), out.getD k 0 = out[k] := fun k hk => by simp [List.getD_eq_getElem?_getD, List.getElem?_eq_getElem hk]
  by_cases hc : 0 < d ∧ out.getD (d - 1) 0 = v
  · rw [if_pos hc]
    refine ⟨h, fun x => ⟨.inl, fun hx => ?_⟩⟩
    rcases hx with hx | rfl
    · exact hx
    · rw [← hc.2, hg (d - 1) (by omega)]; exact List.getElem_mem _
  · rw [if_neg hc]
    have hlo : ∀ x ∈ out.take d, x < v := fun x hx => by
      obtain ⟨k, hk, rfl⟩ := List.mem_take_iff_getElem.1 hx
      have h1 := hat (by omega)
      rw [hg (d - 1) (by omega)] at h1 hc
      have h2 : out[d - 1] ≠ v := fun e => hc ⟨by omega, e⟩
      by_cases hkd : k = d - 1
      · subst hkd; omega
      · have := List.pairwise_iff_getElem.1 h k (d - 1) (by omega) (by omega) (by omega)
        omega
    have hhi : ∀ x ∈ out.drop d, v < x := fun x hx => by
      obtain ⟨k, hk, rfl⟩ := List.mem_drop_iff_getElem.1 hx
      have := hgt (d + k) (by omega) (by omega)
      rw [hg _ (by omega)] at this
      exact this
    have hsp := List.take_append_drop d out
    have hpw := h
    rw [← hsp, List.pairwise_append] at hpw
    refine ⟨List.pairwise_append.2 ⟨hpw.1, List.pairwise_cons.2 ⟨hhi, hpw.2.1⟩, fun x hx y hy => ?_⟩, fun x => ?_⟩
    · have := hlo x hx
      rcases List.mem_cons.1 hy with rfl | hy
      · exact this
      · have := hhi y hy; omega
    · conv => rhs; rw [← hsp]
      simp only [List.mem_append, List.mem_cons]
      constructor
      · rintro (h | h | h)
        · exact .inl (.inl h)
        · exact .inr h
        · exact .inl (.inr h)
      · rintro ((h | h) | h)
        · exact .inl h
        · exact .inr (.inr h)
        · exact .inr (.inl h)
theorem rmo_spec (a : Int) : ∀ (l : List Entry) (out : List Int), out.Pairwise (· < ·) → (l.foldl (rmoS a) out).Pairwise (· < ·) ∧ ∀ x, x ∈ l.foldl (rmoS a) out ↔ x ∈ out ∨ ∃ e ∈ l, hasA a e = true ∧ e.value = x
  | [], out, h => ⟨h, fun x => by simp⟩
  | e :: l, out, h => by
    rw [List.foldl_cons]
    by_cases hh : hasA a e = true
    · obtain ⟨h1, h2⟩ := rmoI_spec out e.value h
      have hr : rmoS a out e = rmoI out e.value := by unfold rmoS; rw [if_pos hh]
      rw [hr]
      obtain ⟨h3, h4⟩ := rmo_spec a l _ h1
      refine ⟨h3, fun x => ?_⟩
      rw [h4, h2]
      constructor
      · rintro ((h | rfl) | ⟨f, hf, hx⟩)
        · exact .inl h
        · exact .inr ⟨e, List.mem_cons_self .., hh, rfl⟩
        · exact .inr ⟨f, List.mem_cons_of_mem _ hf, hx⟩
      · rintro (h | ⟨f, hf, hx⟩)
        · exact .inl (.inl h)
        · rcases List.mem_cons.1 hf with rfl | hf
          · exact .inl (.inr hx.2.symm)
          · exact .inr ⟨f, hf, hx⟩
    · have hr : rmoS a out e = out := by unfold rmoS; rw [if_neg hh]
      rw [hr]
      obtain ⟨h3, h4⟩ := rmo_spec a l _ h
      refine ⟨h3, fun x => ?_⟩
      rw [h4]
      constructor
      · rintro (h | ⟨f, hf, hx⟩)
        · exact .inl h
        · exact .inr ⟨f, List.mem_cons_of_mem _ hf, hx⟩
      · rintro (h | ⟨f, hf, hx⟩)
        · exact .inl h
        · rcases List.mem_cons.1 hf with rfl | hf
          · exact absurd hx.1 hh
          · exact .inr ⟨f, hf, hx⟩
theorem mo_ref (a : Int) (l : List Entry) : moF a l = rmoF a l := by
  obtain ⟨h1, h2⟩ := rmo_spec a l [] List.Pairwise.nil
  refine asc_unique (mo_asc a l) h1 fun x => ?_
  rw [mem_mo]
  unfold rmoF
  rw [h2]
  simp
end Go.Proofs.Ytggmlfmhinafhaa
