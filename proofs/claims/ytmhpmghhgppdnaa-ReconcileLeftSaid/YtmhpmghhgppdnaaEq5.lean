/-
  Valid answers as the reference does.
-/
import Derived.Test.YtmhpmghhgppdnaaEq4
namespace Go.Proofs.Ytmhpmghhgppdnaa
open Go.VM Go.RowKit
section
attribute [local simp] triV
variable {X : Orc}
def keysP (b : Bool) (l : List Tri) : Nat → List Int
  | 0 => []
  | i + 1 => match l[i]? with
    | some x => if (keysP b l i).contains (keyP b x) = true then keysP b l i else keysP b l i ++ [keyP b x]
    | none => keysP b l i
abbrev E15 (a b : List Item) (l : List Tri) (A B : List Int) (i : Nat) : Env := [(0, .l (items a)), (1, .l (items b)), (7, .mp (ints A) (trues A)), (8, .mp (ints B) (trues B)), (13, .l (tris l)), (14, .i .i64 l.length), (15, .i .i64 i)]
def badW (a b : List Item) (l : List Tri) (i : Nat) : Option Unit := match l[i]? with
  | some x => if (outR x.1 a.length || outR x.2.1 b.length || (keysP true l i).contains x.1 || (keysP false l i).contains x.2.1 || decide (amtAt a x.1 ≠ amtAt b x.2.1)) = true then some () else none
  | none => none
def newK (A : List Int) (k : Int) : List Int := if A.contains k = true then A else A ++ [k]
theorem keysP_succ (b : Bool) {l : List Tri} {i : Nat} (hi : i < l.length) : keysP b l (i + 1) = newK (keysP b l i) (keyP b l[i]) := by
  simp only [keysP, List.getElem?_eq_getElem hi, newK]
/-- A round that finds nothing amiss lays two keys. -/
theorem round_go (a b : List Item) (l : List Tri) (A B : List Int) {i : Nat} (hi : i < l.length) (hw : IntKind.i64.wrap ((i : Int) + 1) = (i : Int) + 1) {p q : Nat} (hp : (l[i]).1 = p) (hq : (l[i]).2.1 = q) (hpa : p < a.length) (hqb : q < b.length) (c1 : A.contains (p : Int) = false) (c2 : B.contains (q : Int) = false) (hm : a[p].amount = b[q].amount) :
    kE [0, 1, 7, 8, 13, 14, 15] (exec (O X) body15_1 (E15 a b l A B i)) = some (.n, E15 a b l (A ++ [(p : Int)]) (B ++ [(q : Int)]) (i + 1)) := by
  obtain ⟨env1, hd, hk⟩ := way8 (X := X) a b l A B i p hpa q hqb (l[i]).2.2 c1 c2 hm
  have h1 := mkeys_set (p : Int) A
  have h2 := mvals_set (p : Int) A
  have h3 := mkeys_set (q : Int) B
  have h4 := mvals_set (q : Int) B
  have k1 : ∀ x ∈ ints A, keyB 2 x = true := List.all_eq_true.1 (ints_keys A)
  have k2 : ∀ x ∈ ints B, keyB 2 x = true := List.all_eq_true.1 (ints_keys B)
  rw [c1] at h1 h2
  rw [c2] at h3 h4
  rw [body15_eq]
  simp [-drawG, body15_n, hi, hp, hq, hd, hk, dS, dA, h1, h2, h3, h4, kb2, hw]
  rw [if_pos k1, if_pos k2]
  simp
theorem round_stop (a b : List Item) (l : List Tri) (A B : List Int) {i : Nat} (hi : i < l.length) {x1 x2 : Int} (hp : (l[i]).1 = x1) (hq : (l[i]).2.1 = x2) (h : D15 X (EG a b l A B i x1 x2 (l[i]).2.2) (EGb a b l A B i x1 x2 (l[i]).2.2 true)) :
    kE [0, 1, 7, 8, 13, 14, 15] (exec (O X) body15_1 (E15 a b l A B i)) = some (.r, [(6, .b false)]) := by
  obtain ⟨env1, hd, hk⟩ := h
  rw [body15_eq]
  simp [-drawG, body15_n, hi, hp, hq, hd, hk]
theorem l15 (a b : List Item) (l : List Tri) (h : l.length ≤ 1000000) : loopK (O X) [0, 1, 7, 8, 13, 14, 15] body15_1 (E15 a b l [] [] 0) = some (optE (fun _ => (.r, [(6, .b false)])) (.e 0, []) ((List.range l.length).findSome? (badW a b l))) := by
  have := loopK_code (o := O X) (kin := [0, 1, 7, 8, 13, 14, 15]) (c := body15_1) (fun i => E15 a b l (keysP true l i) (keysP false l i) i) l.length (badW a b l) (fun _ => (.r, [(6, .b false)])) (.e 0, []) (by simp) (by simp) (fun i hi => by
    have hw := wrap_i64 (i + 1) (by omega)
    have s1 := keysP_succ true hi
    have s2 := keysP_succ false hi
    have hb : badW a b l i = if (outR (l[i]).1 a.length || outR (l[i]).2.1 b.length || (keysP true l i).contains (l[i]).1 || (keysP false l i).contains (l[i]).2.1 || decide (amtAt a (l[i]).1 ≠ amtAt b (l[i]).2.1)) = true then some () else none := by
      simp only [badW, List.getElem?_eq_getElem hi]
    rw [hb, s1, s2]
    generalize keysP true l i = A
    generalize keysP false l i = B
    cases h1 : outR (l[i]).1 a.length with
    | true =>
      simp only [Bool.true_or, if_true, optE]
      by_cases h0 : (l[i]).1 < 0
      · exact round_stop a b l A B hi rfl rfl (way1 a b l A B i _ _ _ h0)
      · have h0' : (a.length : Int) ≤ (l[i]).1 := by simp [outR, h0] at h1; exact h1
        exact round_stop a b l A B hi rfl rfl (way2 a b l A B i _ _ _ h0 h0')
    | false =>
      obtain ⟨p, hp, hpa⟩ := outR_false h1
      cases h2 : outR (l[i]).2.1 b.length with
      | true =>
        simp only [Bool.true_or, Bool.or_true, if_true, optE]
        by_cases h0 : (l[i]).2.1 < 0
        · exact round_stop a b l A B hi hp rfl (way3 a b l A B i p hpa _ _ h0)
        · have h0' : (b.length : Int) ≤ (l[i]).2.1 := by simp [outR, h0] at h2; exact h2
          exact round_stop a b l A B hi hp rfl (way4 a b l A B i p hpa _ _ h0 h0')
      | false =>
        obtain ⟨q, hq, hqb⟩ := outR_false h2
        rw [hp, hq]
        cases c1 : A.contains (p : Int) with
        | true =>
          simp only [Bool.true_or, Bool.or_true, if_true, optE]
          exact round_stop a b l A B hi hp hq (way5 a b l A B i p hpa q hqb _ c1)
        | false =>
          cases c2 : B.contains (q : Int) with
          | true =>
            simp only [Bool.true_or, Bool.or_true, if_true, optE]
            exact round_stop a b l A B hi hp hq (way6 a b l A B i p hpa q hqb _ c1 c2)
          | false =>
            have e1 : amtAt a p = a[p].amount := by simp [amtAt, hpa]
            have e2 : amtAt b q = b[q].amount := by simp [amtAt, hqb]
            rw [e1, e2]
            by_cases hm : a[p].amount = b[q].amount
            · have e3 : newK A (keyP true l[i]) = A ++ [(p : Int)] := by simp only [newK, keyP, hp, c1, if_true]; rfl
              have e4 : newK B (keyP false l[i]) = B ++ [(q : Int)] := by simp only [newK, keyP, Bool.false_eq_true, if_false, hq, c2]
              rw [e3, e4]
              simp only [hm, ne_eq, not_true_eq_false, decide_false, Bool.or_false, Bool.false_eq_true, if_false, optE]
              exact round_go a b l A B hi hw hp hq hpa hqb c1 c2 hm
            · simp only [ne_eq, hm, not_false_eq_true, decide_true, Bool.or_true, if_true, optE]
              exact round_stop a b l A B hi hp hq (way7 a b l A B i p hpa q hqb _ c1 c2 hm)) (by simp [body15_1]) (by simp)
  exact this
theorem o15' (a b : List Item) (l : List Tri) (h : l.length ≤ 1000000) : O X 15 [.l (items a), .l (items b), .l (tris l)] = some (.b ((List.range l.length).findSome? (badW a b l)).isNone) := by
  refine orun (fc := code15) rfl rfl rfl ?_
  have hl := l15 (X := X) a b l h
  simp only [E15, ints, encL_nil, List.map_nil, zz] at hl
  cases hq : (List.range l.length).findSome? (badW a b l) <;> rw [hq] at hl <;> simp [code15, exec_loopK, hl]
/-! ### It is the reference's -/
theorem range_first {α : Type} {f : Nat → Option α} : ∀ {n : Nat} {y : α}, (List.range n).findSome? f = some y → ∃ i, i < n ∧ f i = some y ∧ ∀ j, j < i → f j = none
  | 0, y, h => by simp at h
  | n + 1, y, h => by
    rw [List.range_succ, List.findSome?_append] at h
    cases hq : (List.range n).findSome? f with
    | some z =>
      rw [hq] at h
      simp only [Option.some_or, Option.some.injEq] at h
      subst h
      obtain ⟨i, h1, h2, h3⟩ := range_first hq
      exact ⟨i, by omega, h2, h3⟩
    | none =>
      rw [hq] at h
      have h' : f n = some y := by
        cases hf : f n with
        | none => simp [hf] at h
        | some z => simpa [hf] using h
      exact ⟨n, by omega, h', range_find_none.1 hq⟩
theorem keysP_mem (b : Bool) (l : List Tri) (k : Int) : ∀ i, i ≤ l.length → (k ∈ keysP b l i ↔ ∃ j, ∃ h : j < l.length, j < i ∧ keyP b l[j] = k)
  | 0, _ => by simp [keysP]
  | i + 1, hi => by
    have ih := keysP_mem b l k i (by omega)
    rw [keysP_succ b (by omega)]
    have hn : k ∈ newK (keysP b l i) (keyP b l[i]) ↔ k ∈ keysP b l i ∨ k = keyP b l[i] := by
      unfold newK
      split
      · rename_i hc
        rw [List.contains_iff_mem] at hc
        exact ⟨.inl, fun h => h.elim id fun h => h ▸ hc⟩
      · simp
    rw [hn, ih]
    constructor
    · rintro (⟨j, h, h1, h2⟩ | rfl)
      · exact ⟨j, h, by omega, h2⟩
      · exact ⟨i, by omega, by omega, rfl⟩
    · rintro ⟨j, h, h1, h2⟩
      rcases Nat.lt_or_ge j i with h3 | h3
      · exact .inl ⟨j, h, h3, h2⟩
      · obtain rfl : j = i := by omega
        exact .inr h2.symm
theorem atF_at {l : List Tri} {k : Int} {b : Bool} {i : Nat} (hi : i < l.length) : atF l k b i = if keyP b l[i] = k then some i else none := by
  simp only [atF, List.getElem?_eq_getElem hi]
theorem first_iff (b : Bool) {l : List Tri} {i : Nat} (hi : i < l.length) : (atP l (keyP b l[i]) b ≠ i) ↔ (keysP b l i).contains (keyP b l[i]) = true := by
  rw [List.contains_iff_mem, keysP_mem b l _ i (by omega)]
  unfold atP
  cases hq : (List.range l.length).findSome? (atF l (keyP b l[i]) b) with
  | none =>
    have := range_find_none.1 hq i hi
    rw [atF_at hi, if_pos rfl] at this
    cases this
  | some j =>
    obtain ⟨j', h1, h2, h3⟩ := range_first hq
    rw [atF_at h1] at h2
    split at h2
    · rename_i hk
      obtain rfl := Option.some.inj h2
      simp only [ne_eq, Int.natCast_inj]
      constructor
      · intro hne
        rcases Nat.lt_trichotomy j' i with h4 | h4 | h4
        · exact ⟨j', h1, h4, hk⟩
        · exact absurd h4 hne
        · have := h3 i h4
          rw [atF_at hi, if_pos rfl] at this
          cases this
      · rintro ⟨m, hm, hmi, hkm⟩ rfl
        have := h3 m hmi
        rw [atF_at hm, if_pos hkm] at this
        cases this
    · cases h2
theorem bad_iff (a b : List Item) (l : List Tri) {i : Nat} (hi : i < l.length) : badW a b l i = badV a b l i := by
  have h1 := first_iff true hi
  have h2 := first_iff false hi
  simp only [keyP, if_true, Bool.false_eq_true, if_false] at h1 h2
  simp only [badW, badV, List.getElem?_eq_getElem hi]
  have e : (outR (l[i]).1 a.length || outR (l[i]).2.1 b.length || (keysP true l i).contains (l[i]).1 || (keysP false l i).contains (l[i]).2.1 || decide (amtAt a (l[i]).1 ≠ amtAt b (l[i]).2.1)) = (outR (l[i]).1 a.length || outR (l[i]).2.1 b.length || decide (amtAt a (l[i]).1 ≠ amtAt b (l[i]).2.1) || decide (atP l (l[i]).1 true ≠ i) || decide (atP l (l[i]).2.1 false ≠ i)) := by
    have g1 : decide (atP l (l[i]).1 true ≠ i) = (keysP true l i).contains (l[i]).1 := by rw [Bool.eq_iff_iff, decide_eq_true_eq]; exact h1
    have g2 : decide (atP l (l[i]).2.1 false ≠ i) = (keysP false l i).contains (l[i]).2.1 := by rw [Bool.eq_iff_iff, decide_eq_true_eq]; exact h2
    rw [g1, g2]
    generalize outR (l[i]).1 a.length = u1
    generalize outR (l[i]).2.1 b.length = u2
    generalize (keysP true l i).contains (l[i]).1 = u3
    generalize (keysP false l i).contains (l[i]).2.1 = u4
    generalize decide (amtAt a (l[i]).1 ≠ amtAt b (l[i]).2.1) = u5
    cases u1 <;> cases u2 <;> cases u3 <;> cases u4 <;> cases u5 <;> rfl
  rw [e]
theorem o15 (a b : List Item) (l : List Tri) (h : l.length ≤ 1000000) : O X 15 [.l (items a), .l (items b), .l (tris l)] = some (.b (validP a b l)) := by
  rw [o15' a b l h, range_find_congr fun i hi => bad_iff a b l hi]; rfl
theorem o4 (hlive : O X 10 [] = some (.b true)) (a b : List Item) (l : List Tri) : O X 4 [.l (items a), .l (items b), .l (tris l)] = some (.b true) := by
  refine orun (fc := code4) rfl rfl rfl ?_
  have h1 := o9 (X := X) a
  have h2 := o9 (X := X) b
  cases ha : greatP a with
  | true => rw [ha] at h1; simp [code4, h1, hlive]
  | false =>
    rw [ha] at h1
    cases hb : greatP b with
    | true => rw [hb] at h2; simp [code4, h1, h2, hlive]
    | false =>
      rw [hb] at h2
      by_cases hl : 100 < l.length
      · have hl' : (100 : Int) < (l.length : Int) := by omega
        simp [code4, h1, h2, hl', hlive]
      · have hl' : ¬ (100 : Int) < (l.length : Int) := by omega
        have h3 := o15 (X := X) a b l (by omega)
        have h4 := o16 (X := X) a b l (by omega)
        simp [code4, h1, h2, hl', h3, h4, hlive]
end
end Go.Proofs.Ytmhpmghhgppdnaa
