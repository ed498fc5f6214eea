/-
  The laws on changes and rights: valid lists, over what the functions compute.
-/
import Derived.Test.YtonibcnbcnibeaaLaw2
namespace Go.Proofs.Ytonibcnbcnibeaa
open Go.VM
theorem bl_iff : ∀ (x y : List UInt8), Op.bytesLess x y = true ↔ x < y
  | [], [] => by simp [Op.bytesLess]
  | _ :: _, [] => by simp [Op.bytesLess]
  | [], _ :: _ => by simp [Op.bytesLess]
  | a :: x, b :: y => by
    have ih := bl_iff x y
    simp only [Op.bytesLess, Bool.or_eq_true, Bool.and_eq_true, decide_eq_true_eq, beq_iff_eq, List.cons_lt_cons_iff, ih]
theorem lessEq_iff (x y : List UInt8) : lessEq x y = true ↔ ¬ y < x := by
  unfold lessEq
  simp only [Bool.or_eq_true, bl_iff, decide_eq_true_eq]
  constructor
  · rintro (h | rfl) h'
    · exact List.lt_irrefl _ (List.lt_trans h h')
    · exact List.lt_irrefl _ h'
  · intro h
    rcases Std.Trichotomous.rel_or_eq_or_rel_swap (r := fun (a b : List UInt8) => a < b) (a := x) (b := y) with h1 | h1 | h1
    · exact .inl h1
    · exact .inr h1
    · exact absurd h1 h
/-- A list that is accepted. -/
theorem chk_ok {us : List User} (h : chk us = 0) : 1 ≤ us.length ∧ us.length ≤ 16 ∧ ∀ i, i < us.length → cd us i = 0 := by
  unfold chk at h
  split at h
  · cases h
  · rename_i hl
    refine ⟨by omega, by omega, fun i hi => ?_⟩
    split at h
    · rename_i j hj
      have := List.find?_some hj
      simp at this
      exact absurd h this
    · rename_i hn
      rw [List.find?_eq_none] at hn
      simpa using hn i (by simpa using hi)
theorem chk_of {us : List User} (h1 : 1 ≤ us.length) (h2 : us.length ≤ 16) (h : ∀ i, i < us.length → cd us i = 0) : chk us = 0 := by
  unfold chk
  rw [if_neg (by omega)]
  have : (List.range us.length).find? (fun i => decide (cd us i ≠ 0)) = none := by
    rw [List.find?_eq_none]
    intro i hi
    simpa using h i (by simpa using hi)
  rw [this]
theorem cd_ok {us : List User} {i : Nat} (hi : i < us.length) (h : cd us i = 0) : nm25 us[i].name = true ∧ 0 ≤ us[i].rights ∧ us[i].rights ≤ 127 ∧ 0 ≤ us[i].limit ∧ us[i].limit ≤ 1000000000000 ∧ (∀ j, i = j + 1 → ∀ hj : j < us.length, us[j].name < us[i].name) := by
  unfold cd at h
  rw [List.getElem?_eq_getElem hi] at h
  simp only at h
  split at h
  · cases h
  · rename_i h1
    split at h
    · cases h
    · rename_i h2
      split at h
      · cases h
      · rename_i h3
        refine ⟨by simpa using h1, by omega, by omega, by omega, by omega, fun j hj hj' => ?_⟩
        subst hj
        have h4 : ¬ (lessEq us[j + 1].name us[j].name = true) := fun h4 => h3 ⟨by simp, by simpa [hj'] using h4⟩
        rw [lessEq_iff] at h4
        exact Decidable.not_not.1 h4
theorem setR_length (us : List User) (i : Nat) (x : Int) : (setR us i x).length = us.length := by simp [setR]
theorem setR_get (us : List User) (i : Nat) (x : Int) (j : Nat) (hj : j < us.length) : (setR us i x)[j]'(by rw [setR_length]; exact hj) = if i = j then { us[j] with rights := x } else us[j] := by
  unfold setR
  rw [List.getElem_set]
  by_cases h : i = j
  · subst h; simp [hj]
  · simp [h]
theorem setR_name (us : List User) (i : Nat) (x : Int) (j : Nat) : ((setR us i x)[j]?).map User.name = (us[j]?).map User.name := by
  by_cases hj : j < us.length
  · rw [List.getElem?_eq_getElem hj, List.getElem?_eq_getElem (by rw [setR_length]; exact hj), Option.map_some, Option.map_some, setR_get us i x j hj]
    split <;> rfl
  · rw [List.getElem?_eq_none (l := us) (by omega), List.getElem?_eq_none (by rw [setR_length]; omega)]
theorem cd_set {us : List User} {i : Nat} {x : Int} (hx : 0 ≤ x ∧ x ≤ 127) {j : Nat} (hj : j < us.length) (h : cd us j = 0) : cd (setR us i x) j = 0 := by
  have hj' : j < (setR us i x).length := by rw [setR_length]; exact hj
  unfold cd at h ⊢
  rw [List.getElem?_eq_getElem hj] at h
  rw [List.getElem?_eq_getElem hj', setR_name, setR_get us i x j hj]
  simp only at h ⊢
  split
  · split at h
    · cases h
    · split at h
      · cases h
      · split at h
        · cases h
        · rename_i h1 h2 h3
          rw [if_neg h1, if_neg (by dsimp only; omega), if_neg h3]
  · exact h
theorem chk_set {us : List User} {i : Nat} {x : Int} (hx : 0 ≤ x ∧ x ≤ 127) (h : chk us = 0) : chk (setR us i x) = 0 := by
  obtain ⟨h1, h2, h3⟩ := chk_ok h
  exact chk_of (by rw [setR_length]; exact h1) (by rw [setR_length]; exact h2) fun j hj => cd_set hx (by simpa [setR_length] using hj) (h3 j (by simpa [setR_length] using hj))
theorem short_set {us : List User} {i : Nat} {x : Int} (h : short us) : short (setR us i x) := fun j hj => by
  have hj' : j < us.length := by simpa [setR_length] using hj
  rw [setR_get us i x j hj']
  split
  · exact h j hj'
  · exact h j hj'
theorem or_range {x r : Int} (hx : 0 ≤ x ∧ x ≤ 127) (hr : known r = true) : 0 ≤ bitsV .or .i64 x r ∧ bitsV .or .i64 x r ≤ 127 := by
  simp only [known, Bool.and_eq_true, decide_eq_true_eq] at hr
  obtain ⟨n, rfl⟩ := Int.eq_ofNat_of_zero_le hx.1
  obtain ⟨m, rfl⟩ := Int.eq_ofNat_of_zero_le (show 0 ≤ r by omega)
  rw [bits_or n m (by omega) (by omega)]
  have : n ||| m < 2 ^ 7 := Nat.or_lt_two_pow (by omega) (by omega)
  omega
theorem without_range {x r : Int} (hx : 0 ≤ x ∧ x ≤ 127) (hr : known r = true) : 0 ≤ bitsV .andNot .i64 x r ∧ bitsV .andNot .i64 x r ≤ 127 := by
  simp only [known, Bool.and_eq_true, decide_eq_true_eq] at hr
  obtain ⟨n, rfl⟩ := Int.eq_ofNat_of_zero_le hx.1
  obtain ⟨m, rfl⟩ := Int.eq_ofNat_of_zero_le (show 0 ≤ r by omega)
  rw [bits_without n m (by omega) (by omega)]
  have := without_le n m (by omega)
  omega
theorem chg_spec (us : List User) (name : List UInt8) (r : Int) (op : Int → Int) : (∃ i, ∃ h : i < us.length, pos us name = some i ∧ known r = true ∧ chg us name r op = (setR us i (op us[i].rights), 0)) ∨ chg us name r op = ([], 11) ∨ chg us name r op = ([], 1) := by
  unfold chg
  cases hp : pos us name with
  | none => exact .inr (.inl rfl)
  | some i =>
    have hi := (pos_some hp).1
    cases hk : known r with
    | false => exact .inr (.inr rfl)
    | true => exact .inl ⟨i, hi, rfl, rfl, by simp [hi]⟩
set_option maxHeartbeats 2000000 in
theorem e5 (us : List User) (name : List UInt8) (r : Int) (hl : us.length ≤ 9223372036854775807) : O 5 [.l (users us), .s name, .i .i64 r] = some (.b true) := by
  refine O_code (fc := code5) rfl ?_
  rw [bodyV_eq _ _ _ rfl (by rfl)]
  cases hg : great us with
  | true => simp [code5, e7 us hl, hg]
  | false =>
    obtain ⟨h1, h2⟩ := not_great hg
    have g1 := e17 us name r h1
    have g2 := e18 us name r h1
    have g3 := e19 us name r h1
    have g4 := e20 us name r h1
    have s0 := e21 [] (by decide)
    rw [users_nil] at s0
    cases hp : pos us name with
    | none => simp [chg, hp, chgV] at g1 g2 g3 g4; simp [code5, e7 us hl, hg, g1, g2, g3, g4, s0, e12]
    | some i =>
      have hi := (pos_some hp).1
      cases hk : known r with
      | false => simp [chg, hp, chgV, hk] at g1 g2 g3 g4; simp [code5, e7 us hl, hg, g1, g2, g3, g4, s0, e12]
      | true =>
        simp [chg, hp, chgV, hk, hi] at g1 g2 g3 g4
        have c0 := e10 us h1 h2
        have s1 := e21 (setR us i (bitsV .or .i64 us[i].rights r)) (by rw [setR_length]; exact h1)
        have s2 := e21 (setR us i (bitsV .andNot .i64 us[i].rights r)) (by rw [setR_length]; exact h1)
        have c1 := e10 (setR us i (bitsV .or .i64 us[i].rights r)) (by rw [setR_length]; exact h1) (short_set h2)
        have c2 := e10 (setR us i (bitsV .andNot .i64 us[i].rights r)) (by rw [setR_length]; exact h1) (short_set h2)
        have k : chk us = 0 → chk (setR us i (bitsV .or .i64 us[i].rights r)) = 0 ∧ chk (setR us i (bitsV .andNot .i64 us[i].rights r)) = 0 := fun hc => by
          have hr := cd_ok hi ((chk_ok hc).2.2 i hi)
          exact ⟨chk_set (i := i) (or_range (x := us[i].rights) ⟨hr.2.1, hr.2.2.1⟩ hk) hc, chk_set (i := i) (without_range (x := us[i].rights) ⟨hr.2.1, hr.2.2.1⟩ hk) hc⟩
        generalize setR us i (bitsV .or .i64 us[i].rights r) = A at *
        generalize setR us i (bitsV .andNot .i64 us[i].rights r) = B at *
        by_cases hc : chk us = 0
        · obtain ⟨k1, k2⟩ := k hc
          rw [hc] at c0; rw [k1] at c1; rw [k2] at c2
          simp [code5, e7 us hl, hg, g1, g2, g3, g4, s1, s2, c0, c1, c2, e12]
        · simp [code5, e7 us hl, hg, g1, g2, g3, g4, s1, s2, c0, hc, e12]
end Go.Proofs.Ytonibcnbcnibeaa
