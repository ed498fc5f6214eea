/-
  What the functions that the laws reach compute: leaves; lists that ascend.
-/
import Derived.Test.YtdaclkakglmfeaaSpec2
namespace Go.Proofs.Ytdaclkakglmfeaa
open Go.VM
variable {X : Orc}
/-! ### Lists that ascend -/
theorem compact_sorted (d : List Int) (hs : d.Pairwise (· ≤ ·)) : ∀ m, m ≤ d.length → (Lib.compactUpTo d.toArray m).Pairwise (· < ·) ∧ ∀ x, x ∈ Lib.compactUpTo d.toArray m ↔ x ∈ d.take m
  | 0, _ => by simp [Lib.compactUpTo]
  | m + 1, h => by
    obtain ⟨h1, h2⟩ := compact_sorted d hs m (by omega)
    have hm : m < d.length := h
    have hg : d.toArray[m]! = d[m] := by simp [getElem!_pos, hm]
    rw [Lib.compactUpTo_succ, List.take_succ_eq_append_getElem hm]
    have hle : ∀ j (hj : j < m), d[j] ≤ d[m] := fun j hj => List.pairwise_iff_getElem.1 hs j m (by omega) hm hj
    by_cases h0 : m = 0
    · subst h0
      have hk : Lib.keeps d.toArray 0 = true := Lib.keeps_lt_one _ 0 (by omega)
      rw [if_pos hk, hg]
      simp [Lib.compactUpTo]
    · have hm1 : m - 1 < d.length := by omega
      have hg1 : d.toArray[m - 1]! = d[m - 1] := by simp [getElem!_pos, hm1]
      by_cases he : d[m] = d[m - 1]
      · have hk : Lib.keeps d.toArray m = false := Lib.keeps_neg (by omega) (by rw [hg, hg1, he])
        rw [hk]
        simp only [Bool.false_eq_true, if_false, List.append_nil]
        refine ⟨h1, fun x => ?_⟩
        rw [h2, List.mem_append, List.mem_singleton]
        constructor
        · exact .inl
        · rintro (h | rfl)
          · exact h
          · rw [he]
            exact List.mem_take_iff_getElem.2 ⟨m - 1, by omega, rfl⟩
      · have hk : Lib.keeps d.toArray m = true := Lib.keeps_pos (by rw [hg, hg1]; exact he)
        rw [if_pos hk, hg]
        refine ⟨List.pairwise_append.2 ⟨h1, by simp, fun x hx y hy => ?_⟩, fun x => ?_⟩
        · rw [List.mem_singleton.1 hy]
          rw [h2, List.mem_take_iff_getElem] at hx
          obtain ⟨j, hj, rfl⟩ := hx
          have h3 := hle (m - 1) (by omega)
          by_cases hjm : j = m - 1
          · subst hjm; omega
          · have := List.pairwise_iff_getElem.1 hs j (m - 1) (by omega) hm1 (by omega)
            omega
        · rw [List.mem_append, List.mem_append, h2]
theorem asc_eq {a b : List Int} (ha : a.Pairwise (· < ·)) (hb : b.Pairwise (· < ·)) (h : ∀ x, x ∈ a ↔ x ∈ b) : a = b := by
  have na : a.Nodup := ha.imp fun h => by omega
  have nb : b.Nodup := hb.imp fun h => by omega
  exact List.Perm.eq_of_pairwise (le := fun x y => x < y) (fun x y _ _ h1 h2 => by omega) ha hb ((List.perm_ext_iff_of_nodup na nb).2 h)
/-- Where a number goes in, looked for from the end. -/
def dn (out : List Int) (x : Int) : Nat → Nat
  | 0 => 0
  | k + 1 => match out[k]? with
    | some y => if x < y then dn out x k else k + 1
    | none => k + 1
theorem dn_spec (out : List Int) (x : Int) : ∀ k, k ≤ out.length → dn out x k ≤ k ∧ (∀ j (hj : j < out.length), dn out x k ≤ j → j < k → x < out[j]) ∧ (∀ y, 0 < dn out x k → out[dn out x k - 1]? = some y → y ≤ x)
  | 0, _ => ⟨Nat.le_refl _, fun j _ _ h => absurd h (by omega), fun _ h => absurd h (by simp [dn])⟩
  | k + 1, hk => by
    have hk' : k < out.length := by omega
    obtain ⟨h1, h2, h3⟩ := dn_spec out x k (by omega)
    have hdn : dn out x (k + 1) = if x < out[k] then dn out x k else k + 1 := by
      show (match out[k]? with | some y => if x < y then dn out x k else k + 1 | none => k + 1) = _
      rw [List.getElem?_eq_getElem hk']
    by_cases hx : x < out[k]
    · rw [if_pos hx] at hdn
      rw [hdn]
      refine ⟨by omega, fun j hj h4 h5 => ?_, h3⟩
      by_cases e : j = k
      · subst e; exact hx
      · exact h2 j hj h4 (by omega)
    · rw [if_neg hx] at hdn
      rw [hdn]
      refine ⟨Nat.le_refl _, fun j _ h4 h5 => absurd h5 (by omega), fun y _ hy => ?_⟩
      rw [Nat.add_sub_cancel, List.getElem?_eq_getElem hk'] at hy
      cases hy
      omega
def insK (out : List Int) (x : Int) : List Int := let k := dn out x out.length
  if 0 < k ∧ (out[k - 1]?) = some x then out else out.take k ++ x :: out.drop k
theorem insK_spec {out : List Int} (ha : out.Pairwise (· < ·)) (x : Int) : (insK out x).Pairwise (· < ·) ∧ ∀ y, y ∈ insK out x ↔ y = x ∨ y ∈ out := by
  obtain ⟨h1, h2, h3⟩ := dn_spec out x out.length (Nat.le_refl _)
  unfold insK
  simp only
  generalize dn out x out.length = k at h1 h2 h3 ⊢
  split
  · rename_i hc
    exact ⟨ha, fun y => ⟨.inr, fun h => h.elim (fun e => e ▸ List.mem_of_getElem? hc.2) id⟩⟩
  · rename_i hc
    have hlow : ∀ y ∈ out.take k, y < x := by
      intro y hy
      obtain ⟨j, hj, rfl⟩ := List.getElem_of_mem hy
      rw [List.length_take] at hj
      have hjk : j < k := by omega
      have hjl : j < out.length := by omega
      rw [List.getElem_take]
      have hk1 : k - 1 < out.length := by omega
      have hle := h3 _ (by omega) (List.getElem?_eq_getElem hk1)
      have hne : out[k - 1] ≠ x := fun e => hc ⟨by omega, by rw [List.getElem?_eq_getElem hk1, e]⟩
      by_cases e : j = k - 1
      · subst e; omega
      · have := List.pairwise_iff_getElem.1 ha j (k - 1) hjl hk1 (by omega)
        omega
    have hhigh : ∀ y ∈ out.drop k, x < y := by
      intro y hy
      obtain ⟨j, hj, rfl⟩ := List.getElem_of_mem hy
      rw [List.length_drop] at hj
      rw [List.getElem_drop]
      exact h2 (k + j) (by omega) (by omega) (by omega)
    refine ⟨List.pairwise_append.2 ⟨ha.sublist (List.take_sublist ..), List.pairwise_cons.2 ⟨hhigh, ha.sublist (List.drop_sublist ..)⟩, fun a ha' b hb' => ?_⟩, fun y => ?_⟩
    · rcases List.mem_cons.1 hb' with rfl | hb'
      · exact hlow a ha'
      · have := hlow a ha'; have := hhigh b hb'; omega
    · rw [List.mem_append, List.mem_cons]
      constructor
      · rintro (h | rfl | h)
        · exact .inr (List.mem_of_mem_take h)
        · exact .inl rfl
        · exact .inr (List.mem_of_mem_drop h)
      · rintro (rfl | h)
        · exact .inr (.inl rfl)
        · rw [← List.take_append_drop k out, List.mem_append] at h
          rcases h with h | h
          · exact .inl h
          · exact .inr (.inr h)
theorem insK_len (out : List Int) (x : Int) : (insK out x).length ≤ out.length + 1 := by
  unfold insK
  simp only
  split
  · omega
  · simp only [List.length_append, List.length_take, List.length_cons, List.length_drop]; omega
/-! ### Leaves -/
def leafB (l : List Gl) (root : Int) (g : Gl) : Bool := !parentB l g.id && under l g.id root
def lvs (l : List Gl) (root : Int) : List Int := (l.filter (leafB l root)).map (·.id)
def leaves (l : List Gl) (root : Int) : List Int := Lib.compact (isort (lvs l root))
def lf (l : List Gl) (root : Int) (acc : List Int) (g : Gl) : List Int := if leafB l root g = true then insK acc g.id else acc
theorem leaves_asc (l : List Gl) (root : Int) : (leaves l root).Pairwise (· < ·) ∧ ∀ x, x ∈ leaves l root ↔ x ∈ lvs l root := by
  have h := compact_sorted (isort (lvs l root)) (isort_sorted _) (isort (lvs l root)).length (Nat.le_refl _)
  refine ⟨h.1, fun x => ?_⟩
  have := h.2 x
  rw [List.take_length] at this
  exact this.trans (isort_perm _).mem_iff
theorem lf_spec (l : List Gl) (root : Int) : ∀ (m : List Gl) (acc : List Int), acc.Pairwise (· < ·) → (m.foldl (lf l root) acc).Pairwise (· < ·) ∧ ∀ x, x ∈ m.foldl (lf l root) acc ↔ x ∈ acc ∨ x ∈ (m.filter (leafB l root)).map (·.id)
  | [], acc, h => ⟨h, fun x => by simp⟩
  | g :: m, acc, h => by
    rw [List.foldl_cons]
    cases hb : leafB l root g with
    | false =>
      have e : lf l root acc g = acc := by simp [lf, hb]
      rw [e]
      obtain ⟨h1, h2⟩ := lf_spec l root m acc h
      exact ⟨h1, fun x => by rw [h2]; simp [hb]⟩
    | true =>
      have e : lf l root acc g = insK acc g.id := by simp [lf, hb]
      rw [e]
      obtain ⟨q1, q2⟩ := insK_spec h g.id
      obtain ⟨h1, h2⟩ := lf_spec l root m _ q1
      refine ⟨h1, fun x => ?_⟩
      rw [h2, q2]
      simp only [List.filter_cons, hb, if_true, List.map_cons, List.mem_cons]
      constructor
      · rintro ((h | h) | h)
        · exact .inr (.inl h)
        · exact .inl h
        · exact .inr (.inr h)
      · rintro (h | h | h)
        · exact .inl (.inr h)
        · exact .inl (.inl h)
        · exact .inr h
theorem lf_eq (l : List Gl) (root : Int) : l.foldl (lf l root) [] = leaves l root := by
  obtain ⟨h1, h2⟩ := lf_spec l root l [] List.Pairwise.nil
  obtain ⟨h3, h4⟩ := leaves_asc l root
  exact asc_eq h1 h3 fun x => by rw [h2, h4]; simp [lvs]
theorem lf_len (l : List Gl) (root : Int) : ∀ (m : List Gl) (acc : List Int), (m.foldl (lf l root) acc).length ≤ acc.length + m.length
  | [], acc => by simp
  | g :: m, acc => by
    rw [List.foldl_cons]
    have := lf_len l root m (lf l root acc g)
    have h2 : (lf l root acc g).length ≤ acc.length + 1 := by
      unfold lf
      split
      · exact insK_len _ _
      · omega
    simp only [List.length_cons]
    omega
end Go.Proofs.Ytdaclkakglmfeaa
