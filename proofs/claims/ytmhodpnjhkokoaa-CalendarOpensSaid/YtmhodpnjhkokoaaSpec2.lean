/-
  What the functions that the laws reach compute: names, ascending lists, Check, Find.
-/
import Derived.Test.YtmhodpnjhkokoaaSpec
namespace Go.Proofs.Ytmhodpnjhkokoaa
open Go.VM
/-! ### Names -/
def letter (c : Int) : Bool := decide (97 ≤ c) && decide (c ≤ 122)
def badN (s : List UInt8) (i : Nat) : Option Unit := match s[i]? with
  | some c => if letter (c.toNat : Int) = false ∧ (i = 0 ∨ ((c.toNat : Int) ≠ 95 ∧ ((c.toNat : Int) < 48 ∨ 57 < (c.toNat : Int)))) then some () else none
  | none => none
def noBad (s : List UInt8) : Bool := ((List.range s.length).findSome? (badN s)).isNone
def nameOk (s : List UInt8) : Bool := noBad s && (decide (1 ≤ s.length) && decide (s.length ≤ 16))
theorem l33 (s : List UInt8) (h : s.length ≤ maxLen) : loopK O [0, 7, 8] body33_1 [(0, .s s), (7, .i .i64 s.length), (8, .i .i64 0)] = some (optE (fun _ => (.r, [(2, .b false)])) (.e 0, [(0, .s s)]) ((List.range s.length).findSome? (badN s))) := by
  have := loopK_code (o := O) (kin := [0, 7, 8]) (c := body33_1) (fun i => [(0, .s s), (7, .i .i64 s.length), (8, .i .i64 i)]) s.length (badN s) (fun _ => (.r, [(2, .b false)])) (.e 0, [(0, .s s)]) (by simp) (by simp) (fun i hi => by
    have hw := wrap_i64 (i + 1) (by simp only [maxLen] at h; omega)
    have hi0 : ((i : Int) = 0) ↔ i = 0 := by omega
    generalize hx : s[i] = x
    by_cases h1 : (97 : Int) ≤ (x.toNat : Int)
    · by_cases h2 : (x.toNat : Int) ≤ 122
      · simp [body33_1, hi, hw, badN, letter, hx, h1, h2]
      · by_cases h0 : i = 0
        · subst h0; simp [body33_1, hi, badN, letter, hx, h1, h2]
        · have h3 : ¬ (x.toNat : Int) = 95 := by omega
          have h4 : ¬ (x.toNat : Int) < 48 := by omega
          have h5 : (57 : Int) < (x.toNat : Int) := by omega
          simp [body33_1, hi, badN, letter, hx, h1, h2, h0, h3, h4, h5]
    · by_cases h0 : i = 0
      · subst h0; simp [body33_1, hi, badN, letter, hx, h1]
      · by_cases h3 : (x.toNat : Int) = 95
        · simp [body33_1, hi, hw, badN, letter, hx, h0, h3]
        · by_cases h4 : (x.toNat : Int) < 48
          · simp [body33_1, hi, badN, letter, hx, h1, h0, h3, h4]
          · by_cases h5 : (57 : Int) < (x.toNat : Int) <;> simp [body33_1, hi, hw, badN, letter, hx, h1, h0, h3, h4, h5]) (by simp [body33_1]) (by simp)
  exact this
theorem e33 (s : List UInt8) (h : s.length ≤ maxLen) : O 33 [.s s] = some (.b (nameOk s)) := by
  refine orun (fc := code33) rfl rfl rfl ?_
  have hl := l33 s h
  have h1 : (1 : Int) ≤ (s.length : Int) ↔ 1 ≤ s.length := by omega
  have h2 : (s.length : Int) ≤ 16 ↔ s.length ≤ 16 := by omega
  cases hq : (List.range s.length).findSome? (badN s) <;> rw [hq] at hl <;> simp [code33, exec_loopK, hl, nameOk, noBad, hq, h1, h2]
def badM (s : List UInt8) (i : Nat) : Option Unit := match s[i]? with
  | some c => if letter (c.toNat : Int) = false ∧ ((c.toNat : Int) ≠ 95 ∧ ((c.toNat : Int) < 48 ∨ 57 < (c.toNat : Int))) then some () else none
  | none => none
theorem l36 (s : List UInt8) (h : s.length ≤ 16) : loopK O [0, 3] body36_1 [(0, .s s), (3, .i .i64 0)] = some (optE (fun _ => (.r, [(2, .b false)])) (.e 0, []) ((List.range s.length).findSome? (badM s))) := by
  have := loopK_code (o := O) (kin := [0, 3]) (c := body36_1) (fun i => [(0, .s s), (3, .i .i64 i)]) s.length (badM s) (fun _ => (.r, [(2, .b false)])) (.e 0, []) (by simp) (by simp) (fun i hi => by
    have hw := wrap_i64 (i + 1) (by omega)
    generalize hx : s[i] = x
    by_cases h1 : (x.toNat : Int) < 97
    · have h1' : ¬ (97 : Int) ≤ (x.toNat : Int) := by omega
      by_cases h4 : (x.toNat : Int) < 48
      · have h3 : ¬ (x.toNat : Int) = 95 := by omega
        simp [body36_1, hi, badM, letter, hx, h1, h1', h3, h4]
      · by_cases h5 : (57 : Int) < (x.toNat : Int)
        · by_cases h3 : (x.toNat : Int) = 95 <;> simp [body36_1, hi, hw, badM, letter, hx, h1, h1', h3, h4, h5]
        · have h3 : ¬ (x.toNat : Int) = 95 := by omega
          simp [body36_1, hi, hw, badM, letter, hx, h1, h1', h3, h4, h5]
    · have h1' : (97 : Int) ≤ (x.toNat : Int) := by omega
      by_cases h2 : (x.toNat : Int) ≤ 122
      · have h2' : ¬ (122 : Int) < (x.toNat : Int) := by omega
        simp [body36_1, hi, hw, badM, letter, hx, h1, h1', h2, h2']
      · have h2' : (122 : Int) < (x.toNat : Int) := by omega
        have h3 : ¬ (x.toNat : Int) = 95 := by omega
        have h4 : ¬ (x.toNat : Int) < 48 := by omega
        have h5 : (57 : Int) < (x.toNat : Int) := by omega
        simp [body36_1, hi, badM, letter, hx, h1, h1', h2, h2', h3, h4, h5]) (by simp [body36_1]) (by simp)
  exact this
theorem noBad_iff {s : List UInt8} (h0 : 0 < s.length) : noBad s = (letter (s[0].toNat : Int) && ((List.range s.length).findSome? (badM s)).isNone) := by
  rw [Bool.eq_iff_iff]
  unfold noBad
  rw [Option.isNone_iff_eq_none, Bool.and_eq_true, Option.isNone_iff_eq_none, range_find_none, range_find_none]
  constructor
  · intro h
    refine ⟨?_, fun i hi => ?_⟩
    · have := h 0 h0
      simp only [badN, List.getElem?_eq_getElem h0, true_or, and_true] at this
      cases hq : letter (s[0].toNat : Int) with
      | true => rfl
      | false => rw [hq] at this; simp at this
    · have := h i hi
      simp only [badN, badM, List.getElem?_eq_getElem hi] at this ⊢
      split at this
      · cases this
      · rename_i hn
        rw [if_neg fun hc => hn ⟨hc.1, .inr hc.2⟩]
  · rintro ⟨h1, h2⟩ i hi
    have := h2 i hi
    simp only [badN, badM, List.getElem?_eq_getElem hi] at this ⊢
    split at this
    · cases this
    · rename_i hn
      rw [if_neg]
      rintro ⟨hc1, hc2 | hc2⟩
      · subst hc2; rw [h1] at hc1; cases hc1
      · exact hn ⟨hc1, hc2⟩
theorem e36 (s : List UInt8) : O 36 [.s s] = some (.b (nameOk s)) := by
  refine orun (fc := code36) rfl rfl rfl ?_
  unfold nameOk
  by_cases h0 : s.length < 1
  · have h0' : (s.length : Int) < 1 := by omega
    have h1 : ¬ 1 ≤ s.length := by omega
    simp [code36, h0', h1]
  · have h0' : ¬ (s.length : Int) < 1 := by omega
    have h1 : 1 ≤ s.length := by omega
    have hp : 0 < s.length := by omega
    by_cases h2 : 16 < s.length
    · have h2' : (16 : Int) < (s.length : Int) := by omega
      have h3 : ¬ s.length ≤ 16 := by omega
      simp [code36, h0', h2', h3]
    · have h2' : ¬ (16 : Int) < (s.length : Int) := by omega
      have h3 : s.length ≤ 16 := by omega
      rw [noBad_iff hp]
      have hl := l36 s h3
      generalize hx : s[0] = x
      have hp' : (0 : Int) < (s.length : Int) := by omega
      by_cases k1 : (x.toNat : Int) < 97
      · have k1' : ¬ (97 : Int) ≤ (x.toNat : Int) := by omega
        simp [code36, h0', h2', hp, hx, k1, letter, k1']
      · have k1' : (97 : Int) ≤ (x.toNat : Int) := by omega
        by_cases k2 : (122 : Int) < (x.toNat : Int)
        · have k2' : ¬ (x.toNat : Int) ≤ 122 := by omega
          simp [code36, h0', h2', hp, hx, k1, k2, letter, k2']
        · have k2' : (x.toNat : Int) ≤ 122 := by omega
          cases hq : (List.range s.length).findSome? (badM s) <;> rw [hq] at hl <;> simp [code36, h0', h2', hp, hx, k1, k2, letter, k1', k2', exec_loopK, hl, h1, h3]
/-! ### Ascending -/
def fallAt (l : List Int) (i : Nat) : Option Unit := match l[i + 1]? with
  | some x => if x ≤ (l[i]?).getD 0 then some () else none
  | none => none
def ascB (l : List Int) : Bool := ((List.range (l.length - 1)).findSome? (fallAt l)).isNone
theorem l35 (l : List Int) (h : l.length ≤ 1000) : loopK O [0, 3] body35_1 [(0, .l (encL (V.i .i64) l)), (3, .i .i64 1)] = some (optE (fun _ => (.r, [(2, .b false)])) (.e 0, []) ((List.range (l.length - 1)).findSome? (fallAt l))) := by
  have := loopK_code (o := O) (kin := [0, 3]) (c := body35_1) (fun i => [(0, .l (encL (V.i .i64) l)), (3, .i .i64 (i + 1 : Nat))]) (l.length - 1) (fallAt l) (fun _ => (.r, [(2, .b false)])) (.e 0, []) (by simp) (by simp) (fun i hi => by
    have hi1 : i + 1 < l.length := by omega
    have hi0 : i < l.length := by omega
    have hw := wrap_i64 (i + 1 + 1) (by omega)
    have hw2 := wrap_i64 i (by omega)
    have e2 : ((i : Int) + 1) - 1 = i := by omega
    have hlt : (i : Int) + 1 < (l.length : Int) := by omega
    by_cases c : l[i + 1] ≤ l[i] <;> simp [body35_1, hi1, hi0, hw, hw2, hlt, fallAt, c]) (by
      have : ¬ ((l.length - 1 : Nat) : Int) + 1 < (l.length : Int) := by omega
      simp [body35_1, this]) (by simp)
  exact this
theorem e35 (l : List Int) (h : l.length ≤ 1000) : O 35 [.l (encL (V.i .i64) l)] = some (.b (ascB l)) := by
  refine orun (fc := code35) rfl rfl rfl ?_
  have hl := l35 l h
  unfold ascB
  cases hq : (List.range (l.length - 1)).findSome? (fallAt l) <;> rw [hq] at hl <;> simp [code35, exec_loopK, hl]
theorem l37 (l : List Int) (h : l.length ≤ 1000) : loopK O [0, 3] body37_1 [(0, .l (encL (V.i .i64) l)), (3, .i .i64 1)] = some (optE (fun _ => (.r, [(2, .b false)])) (.e 0, []) ((List.range (l.length - 1)).findSome? (fallAt l))) := l35 l h
theorem e37 (l : List Int) (h : l.length ≤ 1000) : O 37 [.l (encL (V.i .i64) l)] = some (.b (ascB l)) := by
  refine orun (fc := code37) rfl rfl rfl ?_
  have hl := l37 l h
  unfold ascB
  cases hq : (List.range (l.length - 1)).findSome? (fallAt l) <;> rw [hq] at hl <;> simp [code37, exec_loopK, hl]
theorem ascB_iff (l : List Int) : ascB l = true ↔ l.Pairwise (· < ·) := by
  unfold ascB
  rw [Option.isNone_iff_eq_none, range_find_none]
  constructor
  · intro h
    have step : ∀ i (hi : i + 1 < l.length), l[i] < l[i + 1] := fun i hi => by
      have := h i (by omega)
      simp only [fallAt, List.getElem?_eq_getElem hi, List.getElem?_eq_getElem (by omega : i < l.length), Option.getD_some] at this
      split at this
      · cases this
      · omega
    have key : ∀ k i (hi : i + k + 1 < l.length), l[i] < l[i + k + 1] := by
      intro k
      induction k with
      | zero => intro i hi; exact step i hi
      | succ k ih => intro i hi; exact Int.lt_trans (ih i (by omega)) (step (i + k + 1) hi)
    rw [List.pairwise_iff_getElem]
    intro i j hi hj hij
    obtain ⟨k, rfl⟩ : ∃ k, j = i + k + 1 := ⟨j - i - 1, by omega⟩
    exact key k i hj
  · intro h i hi
    have hi1 : i + 1 < l.length := by omega
    simp only [fallAt, List.getElem?_eq_getElem hi1, List.getElem?_eq_getElem (by omega : i < l.length), Option.getD_some]
    have := List.pairwise_iff_getElem.1 h i (i + 1) (by omega) hi1 (by omega)
    rw [if_neg (by omega)]
/-! ### Bounds -/
def outAt (l : List Int) (lo hi : Int) (i : Nat) : Option Nat := match l[i]? with
  | some x => if x < lo ∨ hi < x then some i else none
  | none => none
def outP (l : List Int) (lo hi : Int) : Option Nat := (List.range l.length).findSome? (outAt l lo hi)
@[simp] theorem e55 (x lo hi : Int) : O 55 [.i .i64 x, .r [.i .i64 lo], .r [.i .i64 hi]] = some (.b (decide (x < lo ∨ hi < x))) := by
  refine orun (fc := code55) rfl rfl rfl ?_
  by_cases h1 : x < lo <;> simp [code55, h1]
theorem l64 (l : List Int) (lo hi : Int) (h : l.length ≤ 1000) : loopK O [0, 1, 7, 8] body64_1 [(0, .l (encL (V.i .i64) l)), (1, .f (.func 55) [] [.r [.i .i64 lo], .r [.i .i64 hi]]), (7, .i .i64 l.length), (8, .i .i64 0)] = some (optE (fun (i : Nat) => (.r, [(4, .i .i64 i)])) (.e 0, []) (outP l lo hi)) := by
  have := loopK_code (o := O) (kin := [0, 1, 7, 8]) (c := body64_1) (fun i => [(0, .l (encL (V.i .i64) l)), (1, .f (.func 55) [] [.r [.i .i64 lo], .r [.i .i64 hi]]), (7, .i .i64 l.length), (8, .i .i64 i)]) l.length (outAt l lo hi) (fun (i : Nat) => (.r, [(4, .i .i64 i)])) (.e 0, []) (by simp) (by simp) (fun i hi' => by
    have hw := wrap_i64 (i + 1) (by omega)
    by_cases c : l[i] < lo ∨ hi < l[i] <;> simp [body64_1, hi', hw, outAt, c]) (by simp [body64_1]) (by simp)
  exact this
theorem e64 (l : List Int) (lo hi : Int) (h : l.length ≤ 1000) : O 64 [.l (encL (V.i .i64) l), .f (.func 55) [] [.r [.i .i64 lo], .r [.i .i64 hi]]] = some (posV (outP l lo hi)) := by
  refine orun (fc := code64) rfl rfl rfl ?_
  have hl := l64 l lo hi h
  cases hp : outP l lo hi <;> rw [hp] at hl <;> simp [code64, exec_loopK, hl, posV]
theorem e54 (l : List Int) (lo hi : Int) (h : l.length ≤ 1000) : O 54 [.l (encL (V.i .i64) l), .f (.func 55) [] [.r [.i .i64 lo], .r [.i .i64 hi]]] = some (.b (outP l lo hi).isSome) := by
  refine orun (fc := code54) rfl rfl rfl ?_
  have h64 := e64 l lo hi h
  cases hp : outP l lo hi <;> rw [hp] at h64 <;> simp [posV] at h64 <;> simp [code54, h64]
theorem e34 (l : List Int) (lo hi : Int) (h : l.length ≤ 1000) : O 34 [.l (encL (V.i .i64) l), .i .i64 lo, .i .i64 hi] = some (.b (outP l lo hi).isNone) := by
  refine orun (fc := code34) rfl rfl rfl ?_
  have h54 := e54 l lo hi h
  cases hp : outP l lo hi <;> rw [hp] at h54 <;> simp [code34, h54]
theorem outP_iff (l : List Int) (lo hi : Int) : (outP l lo hi).isNone = true ↔ ∀ x ∈ l, lo ≤ x ∧ x ≤ hi := by
  unfold outP
  rw [Option.isNone_iff_eq_none, range_find_none]
  constructor
  · intro h x hx
    obtain ⟨i, hi', rfl⟩ := List.getElem_of_mem hx
    have := h i hi'
    simp only [outAt, List.getElem?_eq_getElem hi'] at this
    split at this
    · cases this
    · omega
  · intro h i hi'
    have := h _ (List.getElem_mem hi')
    simp only [outAt, List.getElem?_eq_getElem hi']
    rw [if_neg (by omega)]
/-! ### Check -/
def chk (c : Calendar) : Int :=
  if nameOk c.name = false then 4
  else if 7 ≤ c.weekend.length ∨ (outP c.weekend 0 6).isNone = false ∨ ascB c.weekend = false then 1
  else if 400 < c.holidays.length then 5
  else if (outP c.holidays 0 73048).isNone = false then 1
  else if ascB c.holidays = false then 10
  else 0
theorem e12 (c : Calendar) (h : Small c) (hn : c.name.length ≤ maxLen) : O 12 [c.v] = some (.i .i64 (chk c)) := by
  refine orun (fc := code12) rfl rfl rfl ?_
  have h33 := e33 c.name hn
  have h34 := e34 c.weekend 0 6 h.1
  have h35 := e35 c.weekend h.1
  have g34 := e34 c.holidays 0 73048 h.2
  have g35 := e35 c.holidays h.2
  unfold chk
  cases c1 : nameOk c.name with
  | false => rw [c1] at h33; simp [code12, h33]
  | true =>
    rw [c1] at h33
    by_cases c2 : 7 ≤ c.weekend.length
    · have c2' : (7 : Int) ≤ (c.weekend.length : Int) := by omega
      simp [code12, h33, c2, c2']
    · have c2' : ¬ (7 : Int) ≤ (c.weekend.length : Int) := by omega
      cases c3 : (outP c.weekend 0 6).isNone with
      | false => rw [c3] at h34; simp [code12, h33, c2, c2', h34]
      | true =>
        rw [c3] at h34
        cases c4 : ascB c.weekend with
        | false => rw [c4] at h35; simp [code12, h33, c2, c2', h34, h35]
        | true =>
          rw [c4] at h35
          by_cases c5 : 400 < c.holidays.length
          · have c5' : (400 : Int) < (c.holidays.length : Int) := by omega
            simp [code12, h33, c2, c2', h34, h35, c5, c5']
          · have c5' : ¬ (400 : Int) < (c.holidays.length : Int) := by omega
            cases c6 : (outP c.holidays 0 73048).isNone with
            | false => rw [c6] at g34; simp [code12, h33, c2, c2', h34, h35, c5, c5', g34]
            | true =>
              rw [c6] at g34
              cases c7 : ascB c.holidays <;> rw [c7] at g35 <;> simp [code12, h33, c2, c2', h34, h35, c5, c5', g34, g35]
theorem l13a (c : Calendar) (h : Small c) : loopK O [1, 3] body13_1 [(1, .bx c.cells), (3, .i .i64 0)] = some (optE (fun (_ : Nat) => (.r, [(2, .i .i64 1)])) (.e 0, [(1, .bx c.cells)]) (outP c.weekend 0 6)) := by
  have := loopK_code (o := O) (kin := [1, 3]) (c := body13_1) (fun i => [(1, .bx c.cells), (3, .i .i64 i)]) c.weekend.length (outAt c.weekend 0 6) (fun (_ : Nat) => (.r, [(2, .i .i64 1)])) (.e 0, [(1, .bx c.cells)]) (by simp) (by simp) (fun i hi => by
    have hw := wrap_i64 (i + 1) (by have := h.1; omega)
    by_cases c1 : c.weekend[i] < 0
    · simp [body13_1, hi, outAt, c1]
    · by_cases c2 : 6 < c.weekend[i] <;> simp [body13_1, hi, hw, outAt, c1, c2]) (by simp [body13_1]) (by simp)
  exact this
theorem l13b (c : Calendar) (h : Small c) : loopK O [1, 4] body13_2 [(1, .bx c.cells), (4, .i .i64 0)] = some (optE (fun (_ : Nat) => (.r, [(2, .i .i64 1)])) (.e 2, [(1, .bx c.cells)]) (outP c.holidays 0 73048)) := by
  have := loopK_code (o := O) (kin := [1, 4]) (c := body13_2) (fun i => [(1, .bx c.cells), (4, .i .i64 i)]) c.holidays.length (outAt c.holidays 0 73048) (fun (_ : Nat) => (.r, [(2, .i .i64 1)])) (.e 2, [(1, .bx c.cells)]) (by simp) (by simp) (fun i hi => by
    have hw := wrap_i64 (i + 1) (by have := h.2; omega)
    by_cases c1 : c.holidays[i] < 0 ∨ 73048 < c.holidays[i]
    · have hv : validD c.holidays[i] = false := by
        cases hq : validD c.holidays[i] with
        | false => rfl
        | true => have := valid_iff.1 hq; omega
      simp [body13_2, hi, outAt, c1, hv]
    · have hv : validD c.holidays[i] = true := valid_iff.2 (by omega)
      simp [body13_2, hi, hw, outAt, c1, hv]) (by simp [body13_2]) (by simp)
  exact this
theorem e13 (c : Calendar) (h : Small c) : O 13 [c.v] = some (.i .i64 (chk c)) := by
  refine orun (fc := code13) rfl rfl rfl ?_
  have h36 := e36 c.name
  have h37 := e37 c.weekend h.1
  have g37 := e37 c.holidays h.2
  have la := l13a c h
  have lb := l13b c h
  unfold chk
  cases c1 : nameOk c.name with
  | false => rw [c1] at h36; simp [code13, h36]
  | true =>
    rw [c1] at h36
    cases c3 : outP c.weekend 0 6 with
    | some j => rw [c3] at la; simp [code13, h36, exec_loopK, la]
    | none =>
      rw [c3] at la
      by_cases c2 : 7 ≤ c.weekend.length
      · have c2' : (6 : Int) < (c.weekend.length : Int) := by omega
        simp [code13, h36, exec_loopK, la, c2, c2']
      · have c2' : ¬ (6 : Int) < (c.weekend.length : Int) := by omega
        cases c4 : ascB c.weekend with
        | false => rw [c4] at h37; simp [code13, h36, exec_loopK, la, c2, c2', h37]
        | true =>
          rw [c4] at h37
          by_cases c5 : 400 < c.holidays.length
          · have c5' : (400 : Int) < (c.holidays.length : Int) := by omega
            simp [code13, h36, exec_loopK, la, c2, c2', h37, c5, c5']
          · have c5' : ¬ (400 : Int) < (c.holidays.length : Int) := by omega
            cases c6 : outP c.holidays 0 73048 with
            | some j => rw [c6] at lb; simp [code13, h36, exec_loopK, la, c2, c2', h37, c5, c5', lb]
            | none =>
              rw [c6] at lb
              cases c7 : ascB c.holidays <;> rw [c7] at g37 <;> simp [code13, h36, exec_loopK, la, c2, c2', h37, c5, c5', lb, g37]
end Go.Proofs.Ytmhodpnjhkokoaa
