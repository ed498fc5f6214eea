/-
  What the functions that the laws reach compute: the version that holds, all versions of a product.
-/
import Derived.Test.YtlmbgmobghmmmaaSpec2
namespace Go.Proofs.Ytlmbgmobghmmmaa
open Go.VM
def zeroP : Product := ⟨[], [], [], 0, 0, 0, 0, ⟨[], false, 0, 0, false⟩, ⟨[], false, 0, 0, false⟩, [], []⟩
theorem zeroP_cells : zeroP.cells = [.s [], .s [], .s [], .i .i64 0, .i .i64 0, .i .i64 0, .i .i64 0, .l [], .b false, .i .i64 0, .i .i64 0, .b false, .l [], .b false, .i .i64 0, .i .i64 0, .b false, .l [], .l []] := rfl
theorem zeroP_rest : zeroP.rest = [.i .i64 0, .i .i64 0, .i .i64 0, .l [], .b false, .i .i64 0, .i .i64 0, .b false, .l [], .b false, .i .i64 0, .i .i64 0, .b false, .l [], .l []] := rfl
def laterB (l : List Product) (b : Option Nat) (p : Product) : Bool := match b with
  | none => true
  | some k => match l[k]? with
    | none => false
    | some q => decide (q.from' < p.from')
/-- The version found among the first i. -/
def atI (l : List Product) (n : List UInt8) (d : Int) : Nat → Option Nat
  | 0 => none
  | i + 1 => match l[i]? with
    | none => atI l n d i
    | some p => if p.name = n ∧ p.from' ≤ d ∧ laterB l (atI l n d i) p = true then some i else atI l n d i
theorem atI_succ (l : List Product) (n : List UInt8) (d : Int) {i : Nat} (hi : i < l.length) : atI l n d (i + 1) = if l[i].name = n ∧ l[i].from' ≤ d ∧ laterB l (atI l n d i) l[i] = true then some i else atI l n d i := by
  conv => lhs; unfold atI
  rw [List.getElem?_eq_getElem hi]
theorem atI_spec (l : List Product) (n : List UInt8) (d : Int) : ∀ i, i ≤ l.length → match atI l n d i with
    | none => ∀ j (hj : j < l.length), j < i → ¬ (l[j].name = n ∧ l[j].from' ≤ d)
    | some k => ∃ hk : k < l.length, k < i ∧ l[k].name = n ∧ l[k].from' ≤ d ∧ ∀ j (hj : j < l.length), j < i → l[j].name = n → l[j].from' ≤ d → l[j].from' ≤ l[k].from'
  | 0, _ => fun j _ h => absurd h (by omega)
  | i + 1, h => by
    have ih := atI_spec l n d i (by omega)
    have hi : i < l.length := h
    rw [atI_succ l n d hi]
    cases hb : atI l n d i with
    | none =>
      rw [hb] at ih
      simp only at ih
      by_cases hc : l[i].name = n ∧ l[i].from' ≤ d
      · rw [if_pos ⟨hc.1, hc.2, rfl⟩]
        refine ⟨hi, by omega, hc.1, hc.2, fun j hj hji h1 h2 => ?_⟩
        by_cases hji' : j = i
        · subst hji'; exact Int.le_refl _
        · exact absurd ⟨h1, h2⟩ (ih j hj (by omega))
      · rw [if_neg (fun h => hc ⟨h.1, h.2.1⟩)]
        intro j hj hji hjn
        by_cases hji' : j = i
        · subst hji'; exact hc hjn
        · exact ih j hj (by omega) hjn
    | some k =>
      rw [hb] at ih
      simp only at ih
      obtain ⟨hk, hki, hk1, hk2, hmax⟩ := ih
      have hl : laterB l (some k) l[i] = decide (l[k].from' < l[i].from') := by simp [laterB, hk]
      rw [hl]
      by_cases hc : l[i].name = n ∧ l[i].from' ≤ d ∧ decide (l[k].from' < l[i].from') = true
      · rw [if_pos hc]
        have h3 : l[k].from' < l[i].from' := by simpa using hc.2.2
        refine ⟨hi, by omega, hc.1, hc.2.1, fun j hj hji h1 h2 => ?_⟩
        by_cases hji' : j = i
        · subst hji'; exact Int.le_refl _
        · have := hmax j hj (by omega) h1 h2; omega
      · rw [if_neg hc]
        refine ⟨hk, by omega, hk1, hk2, fun j hj hji h1 h2 => ?_⟩
        by_cases hji' : j = i
        · subst hji'
          false_or_by_contra
          exact hc ⟨h1, h2, by simp; omega⟩
        · exact hmax j hj (by omega) h1 h2
def atP (l : List Product) (n : List UInt8) (d : Int) : V := match atI l n d l.length with
  | some k => .t [((l[k]?).getD zeroP).v, .b true]
  | none => .t [zeroP.v, .b false]
theorem l16 (l : List Product) (n : List UInt8) (d : Int) (h : l.length ≤ 1000) : loopK O [0, 1, 2, 6, 8, 11, 12, 13] body16_1 [(0, .l (encL Product.v l)), (1, .s n), (2, .i .i64 d), (6, .bx zeroP.cells), (8, .i .i64 (-1)), (11, .l (encL Product.v l)), (12, .i .i64 l.length), (13, .i .i64 0)] =
    some (.e 0, [(0, .l (encL Product.v l)), (6, .bx zeroP.cells), (8, .i .i64 (atV (atI l n d l.length)))]) := by
  generalize hz : zeroP.cells = Z
  have := loopK_run (o := O) (kin := [0, 1, 2, 6, 8, 11, 12, 13]) (c := body16_1) (fun i => [(0, .l (encL Product.v l)), (1, .s n), (2, .i .i64 d), (6, .bx Z), (8, .i .i64 (atV (atI l n d i))), (11, .l (encL Product.v l)), (12, .i .i64 l.length), (13, .i .i64 i)]) l.length (.e 0, [(0, .l (encL Product.v l)), (6, .bx Z), (8, .i .i64 (atV (atI l n d l.length)))]) (by simp) (fun i hi => by
    have hw := wrap_i64 (i + 1) (by omega)
    have hs := atI_spec l n d i (by omega)
    rw [atI_succ l n d hi]
    cases hb : atI l n d i with
    | none =>
      by_cases h1 : l[i].name = n
      · by_cases h2 : l[i].from' ≤ d <;> simp [body16_1, hi, hw, laterB, atV, h1, h2]
      · simp [body16_1, hi, hw, laterB, atV, h1]
    | some k =>
      rw [hb] at hs
      obtain ⟨hk, _⟩ := hs
      by_cases h1 : l[i].name = n
      · by_cases h2 : l[i].from' ≤ d
        · by_cases h3 : l[k].from' < l[i].from' <;> simp [body16_1, hi, hk, hw, laterB, atV, h1, h2, h3]
        · simp [body16_1, hi, hk, hw, laterB, atV, h1, h2]
      · simp [body16_1, hi, hk, hw, laterB, atV, h1]) (by simp [body16_1]) (by simp)
  exact this
theorem e16 (l : List Product) (n : List UInt8) (d : Int) (h : l.length ≤ 1000) : O 16 [.l (encL Product.v l), .s n, .i .i64 d] = some (atP l n d) := by
  refine orun (fc := code16) rfl rfl rfl ?_
  have hl := l16 l n d h
  have hs := atI_spec l n d l.length (Nat.le_refl _)
  unfold atP
  rw [zeroP_cells] at hl
  cases hb : atI l n d l.length with
  | none => rw [hb] at hl; simp only [atV] at hl; simp [code16, exec_loopK, hl, zeroP_rest, show zeroP.name = [] from rfl, show zeroP.currency = [] from rfl, show zeroP.calendar = [] from rfl, show zeroP.from' = 0 from rfl]
  | some k =>
    rw [hb] at hl hs
    obtain ⟨hk, _⟩ := hs
    simp only [atV] at hl
    simp [code16, exec_loopK, hl, hk]
theorem l17 (l : List Product) (n : List UInt8) (d : Int) (h : l.length ≤ 1000) : loopK O [0, 1, 2, 6, 8, 9] body17_1 [(0, .l (encL Product.v l)), (1, .s n), (2, .i .i64 d), (6, .bx zeroP.cells), (8, .i .i64 (-1)), (9, .i .i64 0)] =
    some (.e 0, [(0, .l (encL Product.v l)), (6, .bx zeroP.cells), (8, .i .i64 (atV (atI l n d l.length)))]) := by
  generalize hz : zeroP.cells = Z
  have := loopK_run (o := O) (kin := [0, 1, 2, 6, 8, 9]) (c := body17_1) (fun i => [(0, .l (encL Product.v l)), (1, .s n), (2, .i .i64 d), (6, .bx Z), (8, .i .i64 (atV (atI l n d i))), (9, .i .i64 i)]) l.length (.e 0, [(0, .l (encL Product.v l)), (6, .bx Z), (8, .i .i64 (atV (atI l n d l.length)))]) (by simp) (fun i hi => by
    have hw := wrap_i64 (i + 1) (by omega)
    have hs := atI_spec l n d i (by omega)
    rw [atI_succ l n d hi]
    cases hb : atI l n d i with
    | none =>
      by_cases h1 : l[i].name = n
      · by_cases h2 : l[i].from' ≤ d <;> simp [body17_1, hi, hw, laterB, atV, h1, h2]
      · simp [body17_1, hi, hw, laterB, atV, h1]
    | some k =>
      rw [hb] at hs
      obtain ⟨hk, _⟩ := hs
      by_cases h1 : l[i].name = n
      · by_cases h2 : l[i].from' ≤ d
        · by_cases h3 : l[k].from' < l[i].from' <;> simp [body17_1, hi, hk, hw, laterB, atV, h1, h2, h3]
        · simp [body17_1, hi, hk, hw, laterB, atV, h1, h2]
      · simp [body17_1, hi, hk, hw, laterB, atV, h1]) (by simp [body17_1]) (by simp)
  exact this
theorem e17 (l : List Product) (n : List UInt8) (d : Int) (h : l.length ≤ 1000) : O 17 [.l (encL Product.v l), .s n, .i .i64 d] = some (atP l n d) := by
  refine orun (fc := code17) rfl rfl rfl ?_
  have hl := l17 l n d h
  have hs := atI_spec l n d l.length (Nat.le_refl _)
  unfold atP
  rw [zeroP_cells] at hl
  cases hb : atI l n d l.length with
  | none => rw [hb] at hl; simp only [atV] at hl; simp [code17, exec_loopK, hl, zeroP_rest, show zeroP.name = [] from rfl, show zeroP.currency = [] from rfl, show zeroP.calendar = [] from rfl, show zeroP.from' = 0 from rfl]
  | some k =>
    rw [hb] at hl hs
    obtain ⟨hk, _⟩ := hs
    simp only [atV] at hl
    simp [code17, exec_loopK, hl, hk]
/-! ### All versions of a product -/
def verS (l : List Product) (n : List UInt8) : List Product := l.filter fun p => decide (p.name = n)
theorem verS_take (l : List Product) (n : List UInt8) {i : Nat} (hi : i < l.length) : verS (l.take (i + 1)) n = if l[i].name = n then verS (l.take i) n ++ [l[i]] else verS (l.take i) n := by
  unfold verS
  rw [List.take_succ_eq_append_getElem hi, List.filter_append]
  by_cases h : l[i].name = n <;> simp [h]
theorem verS_len (l : List Product) (n : List UInt8) (i : Nat) : (verS (l.take i) n).length ≤ i := by
  have h1 := List.length_filter_le (fun p : Product => decide (p.name = n)) (l.take i)
  have h2 : (l.take i).length ≤ i := by simp; omega
  unfold verS; omega
theorem l21 (l : List Product) (n : List UInt8) (h : l.length ≤ 1000) : loopK O [1, 5, 8, 9, 10] body21_1 [(1, .s n), (5, .ow 33 []), (8, .l (encL Product.v l)), (9, .i .i64 l.length), (10, .i .i64 0)] = some (.e 0, [(5, .ow 33 (encL Product.v (verS l n)))]) := by
  have := loopK_run (o := O) (kin := [1, 5, 8, 9, 10]) (c := body21_1) (fun i => [(1, .s n), (5, .ow 33 (encL Product.v (verS (l.take i) n))), (8, .l (encL Product.v l)), (9, .i .i64 l.length), (10, .i .i64 i)]) l.length (.e 0, [(5, .ow 33 (encL Product.v (verS l n)))]) (by simp) (fun i hi => by
    have hw := wrap_i64 (i + 1) (by omega)
    have hlen := verS_len l n i
    have hb : ((verS (l.take i) n).length + 1) * 240 ≤ 140737488355328 := by omega
    rw [verS_take l n hi]
    generalize verS (l.take i) n = v at hlen hb ⊢
    by_cases h1 : l[i].name = n
    · simp [body21_1, hi, hw, h1, hb, encL_append, encL_cons]
    · simp [body21_1, hi, hw, h1]) (by simp [body21_1]) (by simp)
  exact this
theorem e21 (l : List Product) (n : List UInt8) (h : l.length ≤ 1000) : O 21 [.l (encL Product.v l), .s n] = some (.ow 33 (encL Product.v (verS l n))) := by
  refine orun (fc := code21) rfl rfl rfl ?_
  have hl := l21 l n h
  simp [code21, exec_loopK, hl]
theorem l22 (l : List Product) (n : List UInt8) (h : l.length ≤ 1000) : loopK O [0, 1, 5, 6] body22_1 [(0, .l (encL Product.v l)), (1, .s n), (5, .ow 33 []), (6, .i .i64 0)] = some (.e 0, [(5, .ow 33 (encL Product.v (verS l n)))]) := by
  have := loopK_run (o := O) (kin := [0, 1, 5, 6]) (c := body22_1) (fun i => [(0, .l (encL Product.v l)), (1, .s n), (5, .ow 33 (encL Product.v (verS (l.take i) n))), (6, .i .i64 i)]) l.length (.e 0, [(5, .ow 33 (encL Product.v (verS l n)))]) (by simp) (fun i hi => by
    have hw := wrap_i64 (i + 1) (by omega)
    have hlen := verS_len l n i
    have hb : ((verS (l.take i) n).length + 1) * 240 ≤ 140737488355328 := by omega
    rw [verS_take l n hi]
    generalize verS (l.take i) n = v at hlen hb ⊢
    by_cases h1 : l[i].name = n
    · simp [body22_1, hi, hw, h1, hb, encL_append, encL_cons]
    · simp [body22_1, hi, hw, h1]) (by simp [body22_1]) (by simp)
  exact this
theorem e22 (l : List Product) (n : List UInt8) (h : l.length ≤ 1000) : O 22 [.l (encL Product.v l), .s n] = some (.ow 33 (encL Product.v (verS l n))) := by
  refine orun (fc := code22) rfl rfl rfl ?_
  have hl := l22 l n h
  simp [code22, exec_loopK, hl]
/-! ### Days -/
def intB (a b : List Int) (i : Nat) : Option Unit := match a[i]?, b[i]? with
  | some x, some y => if x = y then none else some ()
  | _, _ => none
theorem l23 (a : List Int) (h : a.length ≤ 1000) : loopK O [0, 1, 5] body23_1 [(0, .l (ints a)), (1, .l (ints a)), (5, .i .i64 0)] = some (.e 0, []) := by
  have := loopK_run (o := O) (kin := [0, 1, 5]) (c := body23_1) (fun i => [(0, .l (encL (V.i .i64) a)), (1, .l (encL (V.i .i64) a)), (5, .i .i64 i)]) a.length (.e 0, []) (by simp) (fun i hi => by
    have hw := wrap_i64 (i + 1) (by omega)
    simp [body23_1, hi, hw]) (by simp [body23_1]) (by simp)
  exact this
/-- A list of numbers equals itself. -/
theorem e23 (a : List Int) (h : a.length ≤ 1000) : O 23 [.l (ints a), .l (ints a)] = some (.b true) := by
  refine orun (fc := code23) rfl rfl rfl ?_
  have hl := l23 a h
  simp [code23, exec_loopK, hl]
def daysOf (l : List Product) (n : List UInt8) (a b : Int) : List Int := ((verS l n).map (·.from')).filter fun d => decide (a ≤ d) && decide (d ≤ b)
end Go.Proofs.Ytlmbgmobghmmmaa
