/-
  What the functions that the laws reach compute: lists of users.
-/
import Derived.Test.YtonibcnbcnibeaaSpec
namespace Go.Proofs.Ytonibcnbcnibeaa
open Go.VM
/-- User i's name is too long. -/
def long (us : List User) (i : Nat) : Bool := decide (200 < (us[i]?.map fun u => u.name.length).getD 0)
def great (us : List User) : Bool := decide (40 < us.length) || ((List.range us.length).find? (long us)).isSome
theorem l7 (us : List User) (h : us.length ≤ 40) : loopK O [0, 3] body7_1 [(0, .l (users us)), (3, .i .i64 0)] =
    some (match (List.range us.length).find? (long us) with | some _ => (.r, [(2, .b true)]) | none => (.e 0, [])) := by
  have := loopK_search (o := O) (kin := [0, 3]) (c := body7_1) (fun i => [(0, .l (users us)), (3, .i .i64 i)]) us.length (long us) (fun _ => (.r, [(2, .b true)])) (.e 0, []) (by simp) (fun i hi hs => ?_) (fun i hi hs => ?_) ?_ (by simp)
  · exact this
  · simp [long, hi] at hs
    have hs' : (200 : Int) < (us[i].name.length : Int) := by omega
    simp [body7_1, hi, hs']
  · have hw := wrap_i64 (i + 1) (by omega)
    simp [long, hi] at hs
    have hs' : ¬ ((200 : Int) < (us[i].name.length : Int)) := by omega
    simp [body7_1, hi, hw, hs']
  · simp [body7_1]
theorem e7 (us : List User) (hl : us.length ≤ 9223372036854775807) : O 7 [.l (users us)] = some (.b (great us)) := by
  refine O_code (fc := code7) rfl ?_
  rw [bodyV_eq _ _ _ rfl (by rfl)]
  by_cases h : us.length ≤ 40
  · have h1 : ¬ (40 < us.length) := by omega
    have h2 : ¬ ((40 : Int) < (us.length : Int)) := by omega
    simp [code7, exec_loopK, l7 us h, great, h1, h2]
    cases (List.range us.length).find? (long us) <;> simp
  · have h1 : 40 < us.length := by omega
    have h2 : (40 : Int) < (us.length : Int) := by omega
    simp [code7, great, h1, h2]
def letter (c : UInt8) : Bool := decide ((97 : Int) ≤ (c.toNat : Int)) && decide ((c.toNat : Int) ≤ 122)
def digit (c : UInt8) : Bool := decide ((48 : Int) ≤ (c.toNat : Int)) && decide ((c.toNat : Int) ≤ 57)
def under (c : UInt8) : Bool := decide ((c.toNat : Int) = 95)
def bad24 (s : List UInt8) (i : Nat) : Bool := match s[i]? with
  | some c => !letter c && (decide (i = 0) || (!under c && !digit c))
  | none => false
def nm24 (s : List UInt8) : Bool := ((List.range s.length).find? (bad24 s)).isNone && decide (1 ≤ s.length) && decide (s.length ≤ 16)
theorem l24 (s : List UInt8) (h : s.length ≤ 200) : loopK O [0, 7, 8] body24_1 [(0, .s s), (7, .i .i64 s.length), (8, .i .i64 0)] =
    some (match (List.range s.length).find? (bad24 s) with | some _ => (.r, [(2, .b false)]) | none => (.e 0, [(0, .s s)])) := by
  have := loopK_search (o := O) (kin := [0, 7, 8]) (c := body24_1) (fun i => [(0, .s s), (7, .i .i64 s.length), (8, .i .i64 i)]) s.length (bad24 s) (fun _ => (.r, [(2, .b false)])) (.e 0, [(0, .s s)]) (by simp) (fun i hi hs => ?_) (fun i hi hs => ?_) ?_ (by simp)
  · exact this
  · simp [bad24, hi, letter, digit, under] at hs
    simp [body24_1, hi]
    omega
  · have hw := wrap_i64 (i + 1) (by omega)
    simp [bad24, hi, letter, digit, under] at hs
    simp [body24_1, hi, hw]
    rw [if_neg (by omega)]
    simp
  · simp [body24_1]
theorem e24 (s : List UInt8) (h : s.length ≤ 200) : O 24 [.s s] = some (.b (nm24 s)) := by
  refine O_code (fc := code24) rfl ?_
  rw [bodyV_eq _ _ _ rfl (by rfl)]
  have h1 : decide ((1 : Int) ≤ (s.length : Int)) = decide (1 ≤ s.length) := by simp; omega
  have h2 : decide ((s.length : Int) ≤ 16) = decide (s.length ≤ 16) := by simp; omega
  simp [code24, exec_loopK, l24 s h, nm24]
  cases (List.range s.length).find? (bad24 s) <;> simp [h1, h2]
def bad25 (s : List UInt8) (i : Nat) : Bool := match s[i]? with
  | some c => !letter c && !digit c && !under c
  | none => false
def nm25 (s : List UInt8) : Bool := decide (1 ≤ s.length) && decide (s.length ≤ 16) && (s[0]?.map letter).getD false && ((List.range s.length).find? (bad25 s)).isNone
theorem l25 (s : List UInt8) (h : s.length ≤ 16) : loopK O [0, 3] body25_1 [(0, .s s), (3, .i .i64 0)] =
    some (match (List.range s.length).find? (bad25 s) with | some _ => (.r, [(2, .b false)]) | none => (.e 0, [])) := by
  have := loopK_search (o := O) (kin := [0, 3]) (c := body25_1) (fun i => [(0, .s s), (3, .i .i64 i)]) s.length (bad25 s) (fun _ => (.r, [(2, .b false)])) (.e 0, []) (by simp) (fun i hi hs => ?_) (fun i hi hs => ?_) ?_ (by simp)
  · exact this
  · simp [bad25, hi, letter, digit, under] at hs
    simp [body25_1, hi]
    omega
  · have hw := wrap_i64 (i + 1) (by omega)
    simp [bad25, hi, letter, digit, under] at hs
    simp [body25_1, hi, hw]
    rw [if_neg (by omega)]
    simp
  · simp [body25_1]
theorem e25 (s : List UInt8) (h : s.length ≤ 200) : O 25 [.s s] = some (.b (nm25 s)) := by
  refine O_code (fc := code25) rfl ?_
  rw [bodyV_eq _ _ _ rfl (by rfl)]
  by_cases h1 : 1 ≤ s.length ∧ s.length ≤ 16
  · have h2 : ¬ ((s.length : Int) < 1) := by omega
    have h3 : ¬ ((16 : Int) < (s.length : Int)) := by omega
    have h0 : 0 < s.length := by omega
    have hx := opQ_idxn O s .i64 0
    simp [h0] at hx
    by_cases h4 : ((s[0].toNat : Int) < 97 ∨ (122 : Int) < (s[0].toNat : Int))
    · simp [code25, exec_loopK, l25 s h1.2, nm25, h1, h2, h3, hx, h0, letter, h4]
      intro a b
      omega
    · have h5 : (97 : Int) ≤ (s[0].toNat : Int) := by omega
      have h6 : (s[0].toNat : Int) ≤ 122 := by omega
      simp [code25, exec_loopK, l25 s h1.2, nm25, h1, h2, h3, hx, h0, letter, h4, h5, h6]
      cases (List.range s.length).find? (bad25 s) <;> simp
  · have h2 : (s.length : Int) < 1 ∨ (16 : Int) < (s.length : Int) := by omega
    rcases h2 with h2 | h2
    · simp [code25, nm25, h2]
      omega
    · have h3 : ¬ ((s.length : Int) < 1) := by omega
      simp [code25, nm25, h2, h3]
      omega
theorem nm_eq (s : List UInt8) : nm24 s = nm25 s := by
  by_cases h : 1 ≤ s.length ∧ s.length ≤ 16
  · have h0 : 0 < s.length := by omega
    rw [Bool.eq_iff_iff]
    simp only [nm24, nm25, h.1, h.2, decide_true, Bool.and_true, Bool.true_and, Bool.and_eq_true, Option.isNone_iff_eq_none, List.find?_eq_none, List.mem_range]
    simp only [List.getElem?_eq_getElem h0, Option.map_some, Option.getD_some]
    constructor
    · intro hb
      refine ⟨?_, fun i hi => ?_⟩
      · have := hb 0 h0
        simpa [bad24, h0] using this
      · have h1 := hb i hi
        have h2 := hb 0 h0
        simp only [bad24, bad25, List.getElem?_eq_getElem hi, List.getElem?_eq_getElem h0] at h1 h2 ⊢
        by_cases hi0 : i = 0
        · subst hi0; simp at h2; simp [h2]
        · simp [hi0] at h1
          cases hl : letter s[i] <;> cases hu : under s[i] <;> cases hd : digit s[i] <;> simp_all
    · rintro ⟨h1, h2⟩ i hi
      have h3 := h2 i hi
      simp only [bad24, bad25, List.getElem?_eq_getElem hi] at h3 ⊢
      by_cases hi0 : i = 0
      · subst hi0; simp [h1]
      · cases hl : letter s[i] <;> cases hu : under s[i] <;> cases hd : digit s[i] <;> simp_all
  · have : (decide (1 ≤ s.length) && decide (s.length ≤ 16)) = false := by
      simp; omega
    simp only [nm24, nm25, Bool.and_assoc, this, Bool.and_false]
    simp
def lessEq (x y : List UInt8) : Bool := Op.bytesLess x y || decide (x = y)
/-- What is wrong with user i. -/
def cd (us : List User) (i : Nat) : Int := match us[i]? with
  | some u => if nm25 u.name = false then 4 else if u.rights < 0 ∨ 127 < u.rights ∨ u.limit < 0 ∨ 1000000000000 < u.limit then 1 else if i ≠ 0 ∧ lessEq u.name ((us[i - 1]?.map User.name).getD []) = true then 10 else 0
  | none => 0
def chk (us : List User) : Int := if us.length < 1 ∨ 16 < us.length then 5 else match (List.range us.length).find? (fun i => decide (cd us i ≠ 0)) with
  | some i => cd us i
  | none => 0
def short (us : List User) : Prop := ∀ (i : Nat) (h : i < us.length), us[i].name.length ≤ 200
theorem b11 (us : List User) (h : us.length ≤ 16) (hs : short us) (i : Nat) (hi : i < us.length) : ∃ g, exec O body11_1 [(0, .l (users us)), (3, .i .i64 i)] = (if cd us i = 0 then some (.n, g) else some (.r, [(2, .i .i64 (cd us i))])) ∧ keepE [0, 3] g = [(0, .l (users us)), (3, .i .i64 ((i : Int) + 1))] := by
  have hn := e25 us[i].name (hs i hi)
  have hw := wrap_i64 (i + 1) (by omega)
  by_cases c1 : nm25 us[i].name = false
  · exact ⟨[(0, .l (users us)), (3, .i .i64 ((i : Int) + 1))], by simp [body11_1, hi, hn, cd, c1], by simp⟩
  by_cases c2 : us[i].rights < 0 ∨ 127 < us[i].rights ∨ us[i].limit < 0 ∨ 1000000000000 < us[i].limit
  · have c2' : ((us[i].rights < 0 ∨ 127 < us[i].rights) ∨ us[i].limit < 0) ∨ 1000000000000 < us[i].limit := by omega
    exact ⟨[(0, .l (users us)), (3, .i .i64 ((i : Int) + 1))], by simp [body11_1, hi, hn, cd, c1, c2, c2'], by simp⟩
  have c2' : ¬ (((us[i].rights < 0 ∨ 127 < us[i].rights) ∨ us[i].limit < 0) ∨ 1000000000000 < us[i].limit) := by omega
  cases i with
  | zero =>
    simp at hw
    simp [body11_1, hi, hn, cd, c1, c2, c2', hw]
  | succ j =>
    have hj : j < us.length := by omega
    have hw0 := wrap_i64 (j : Int) (by omega)
    have hw2 := wrap_i64 ((j : Int) + 1 + 1) (by omega)
    have f1 : (j : Int) + 1 < (us.length : Int) := by omega
    have f2 : (0 : Int) ≤ (j : Int) + 1 := by omega
    by_cases c3 : lessEq us[j + 1].name us[j].name = true
    · have c3' := c3
      simp [lessEq] at c3'
      exact ⟨[(0, .l (users us)), (3, .i .i64 ((j : Int) + 1 + 1))], by simp [body11_1, hi, hj, hn, cd, c1, c2, c2', hw0, c3, c3', f1, f2], by simp⟩
    · have c3' := c3
      simp [lessEq] at c3'
      simp [body11_1, hi, hj, hn, cd, c1, c2, c2', hw0, hw2, c3, c3', f1, f2]
theorem l11 (us : List User) (h : us.length ≤ 16) (hs : short us) : loopK O [0, 3] body11_1 [(0, .l (users us)), (3, .i .i64 0)] =
    some (match (List.range us.length).find? (fun i => decide (cd us i ≠ 0)) with | some i => (.r, [(2, .i .i64 (cd us i))]) | none => (.e 0, [])) := by
  have := loopK_search (o := O) (kin := [0, 3]) (c := body11_1) (fun i => [(0, .l (users us)), (3, .i .i64 i)]) us.length (fun i => decide (cd us i ≠ 0)) (fun i => (.r, [(2, .i .i64 (cd us i))])) (.e 0, []) (by simp) (fun i hi hst => ?_) (fun i hi hst => ?_) ?_ (by simp)
  · exact this
  · obtain ⟨g, h1, h2⟩ := b11 us h hs i hi
    simp at hst
    simpa [hst] using h1
  · obtain ⟨g, h1, h2⟩ := b11 us h hs i hi
    simp at hst
    exact ⟨g, by simpa [hst] using h1, by simpa using h2⟩
  · simp [body11_1]
theorem e11 (us : List User) (hl : us.length ≤ 40) (hs : short us) : O 11 [.l (users us)] = some (.i .i64 (chk us)) := by
  refine O_code (fc := code11) rfl ?_
  rw [bodyV_eq _ _ _ rfl (by rfl)]
  by_cases h : us.length < 1 ∨ 16 < us.length
  · have h' : (us.length : Int) < 1 ∨ (16 : Int) < (us.length : Int) := by omega
    have hc : chk us = 5 := by unfold chk; rw [if_pos h]
    simp [code11, hc, h']
  · have h' : ¬ ((us.length : Int) < 1 ∨ (16 : Int) < (us.length : Int)) := by omega
    have hc : chk us = match (List.range us.length).find? (fun i => decide (cd us i ≠ 0)) with
      | some i => cd us i
      | none => 0 := by unfold chk; rw [if_neg h]
    have hl := l11 us (by omega) hs
    rw [hc]
    cases hq : (List.range us.length).find? (fun i => decide (cd us i ≠ 0)) <;> rw [hq] at hl <;> simp [code11, exec_loopK, hl, h']
theorem b10 (us : List User) (h : us.length ≤ 16) (hs : short us) (i : Nat) (hi : i < us.length) : ∃ g, exec O body10_1 [(0, .l (users us)), (13, .l (users us)), (14, .i .i64 us.length), (15, .i .i64 i)] = (if cd us i = 0 then some (.n, g) else some (.r, [(2, .i .i64 (cd us i))])) ∧ keepE [0, 13, 14, 15] g = [(0, .l (users us)), (13, .l (users us)), (14, .i .i64 us.length), (15, .i .i64 ((i : Int) + 1))] := by
  have hn := e24 us[i].name (hs i hi)
  rw [nm_eq] at hn
  have hw := wrap_i64 (i + 1) (by omega)
  by_cases c1 : nm25 us[i].name = false
  · exact ⟨[(0, .l (users us)), (13, .l (users us)), (14, .i .i64 us.length), (15, .i .i64 ((i : Int) + 1))], by simp [body10_1, hi, hn, cd, c1], by simp⟩
  by_cases c2 : us[i].rights < 0 ∨ 127 < us[i].rights ∨ us[i].limit < 0 ∨ 1000000000000 < us[i].limit
  · have c2' : ((us[i].rights < 0 ∨ 127 < us[i].rights) ∨ us[i].limit < 0) ∨ 1000000000000 < us[i].limit := by omega
    exact ⟨[(0, .l (users us)), (13, .l (users us)), (14, .i .i64 us.length), (15, .i .i64 ((i : Int) + 1))], by simp [body10_1, hi, hn, cd, c1, c2, c2'], by simp⟩
  have c2' : ¬ (((us[i].rights < 0 ∨ 127 < us[i].rights) ∨ us[i].limit < 0) ∨ 1000000000000 < us[i].limit) := by omega
  cases i with
  | zero =>
    simp at hw
    simp [body10_1, hi, hn, cd, c1, c2, c2', hw]
  | succ j =>
    have hj : j < us.length := by omega
    have hw0 := wrap_i64 (j : Int) (by omega)
    have hw2 := wrap_i64 ((j : Int) + 1 + 1) (by omega)
    have f1 : (j : Int) + 1 < (us.length : Int) := by omega
    have f2 : (0 : Int) ≤ (j : Int) + 1 := by omega
    by_cases c3 : lessEq us[j + 1].name us[j].name = true
    · have c3' := c3
      simp [lessEq] at c3'
      exact ⟨[(0, .l (users us)), (13, .l (users us)), (14, .i .i64 us.length), (15, .i .i64 ((j : Int) + 1 + 1))], by simp [body10_1, hi, hj, hn, cd, c1, c2, c2', hw0, c3, c3', f1, f2], by simp⟩
    · have c3' := c3
      simp [lessEq] at c3'
      simp [body10_1, hi, hj, hn, cd, c1, c2, c2', hw0, hw2, c3, c3', f1, f2]
end Go.Proofs.Ytonibcnbcnibeaa
