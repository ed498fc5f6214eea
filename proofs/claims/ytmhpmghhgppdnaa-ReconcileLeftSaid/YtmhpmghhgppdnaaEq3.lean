/-
  What the functions compute: where a pair stands; the reference's Valid.
-/
import Derived.Test.YtmhpmghhgppdnaaEq2
namespace Go.Proofs.Ytmhpmghhgppdnaa
open Go.VM Go.RowKit
@[simp] theorem tri_all_len (l : List Tri) : (encL triV l).all (fun x => x.cells.length == 3) = true := encL_all fun _ => rfl
@[simp] theorem tri_len_all (l : List Tri) : (∀ x ∈ encL triV l, x.cells.length = 3) = True := encL_len fun _ => rfl
section
attribute [local simp] triV
variable {X : Orc}
abbrev tris (l : List Tri) : List V := encL triV l
def keyP (b : Bool) (x : Tri) : Int := if b = true then x.1 else x.2.1
def atF (l : List Tri) (k : Int) (b : Bool) (i : Nat) : Option Nat := match l[i]? with
  | some x => if keyP b x = k then some i else none
  | none => none
def atP (l : List Tri) (k : Int) (b : Bool) : Int := match (List.range l.length).findSome? (atF l k b) with
  | some i => (i : Int)
  | none => -1
theorem l33 (l : List Tri) (k : Int) (b : Bool) (h : l.length ≤ 1000000) : loopK (O X) [0, 1, 2, 7] body33_1 [(0, .l (tris l)), (1, .i .i64 k), (2, .b b), (7, .i .i64 0)] = some (optE (fun (i : Nat) => (.r, [(6, .i .i64 i)])) (.e 0, []) ((List.range l.length).findSome? (atF l k b))) := by
  have := loopK_code (o := O X) (kin := [0, 1, 2, 7]) (c := body33_1) (fun i => [(0, .l (tris l)), (1, .i .i64 k), (2, .b b), (7, .i .i64 i)]) l.length (atF l k b) (fun (i : Nat) => (.r, [(6, .i .i64 i)])) (.e 0, []) (by simp) (by simp) (fun i hi => by
    have hw := wrap_i64 (i + 1) (by omega)
    cases b with
    | true => by_cases h : (l[i]).1 = k <;> simp [body33_1, hi, hw, atF, keyP, h]
    | false => by_cases h : (l[i]).2.1 = k <;> simp [body33_1, hi, hw, atF, keyP, h]) (by simp [body33_1]) (by simp)
  exact this
theorem o33 (l : List Tri) (k : Int) (b : Bool) (h : l.length ≤ 1000000) : O X 33 [.l (tris l), .i .i64 k, .b b] = some (.i .i64 (atP l k b)) := by
  refine orun (fc := code33) rfl rfl rfl ?_
  have hl := l33 (X := X) l k b h
  cases hq : (List.range l.length).findSome? (atF l k b) <;> rw [hq] at hl <;> simp [code33, exec_loopK, hl, atP, hq]
/-- An index lies without. -/
def outR (x : Int) (n : Nat) : Bool := decide (x < 0) || decide ((n : Int) ≤ x)
def amtAt (l : List Item) (x : Int) : Int := ((l[x.toNat]?).map (·.amount)).getD 0
def badV (a b : List Item) (l : List Tri) (i : Nat) : Option Unit := match l[i]? with
  | some x => if (outR x.1 a.length || outR x.2.1 b.length || decide (amtAt a x.1 ≠ amtAt b x.2.1) || decide (atP l x.1 true ≠ i) || decide (atP l x.2.1 false ≠ i)) = true then some () else none
  | none => none
def validP (a b : List Item) (l : List Tri) : Bool := ((List.range l.length).findSome? (badV a b l)).isNone
theorem outR_false {x : Int} {n : Nat} (h : outR x n = false) : ∃ p : Nat, x = p ∧ p < n := by
  simp only [outR, Bool.or_eq_false_iff, decide_eq_false_iff_not] at h
  exact ⟨x.toNat, by omega, by omega⟩
set_option maxHeartbeats 1000000 in
theorem l16 (a b : List Item) (l : List Tri) (h : l.length ≤ 1000000) : loopK (O X) [0, 1, 2, 7] body16_1 [(0, .l (items a)), (1, .l (items b)), (2, .l (tris l)), (7, .i .i64 0)] = some (optE (fun _ => (.r, [(6, .b false)])) (.e 0, []) ((List.range l.length).findSome? (badV a b l))) := by
  have := loopK_code (o := O X) (kin := [0, 1, 2, 7]) (c := body16_1) (fun i => [(0, .l (items a)), (1, .l (items b)), (2, .l (tris l)), (7, .i .i64 i)]) l.length (badV a b l) (fun _ => (.r, [(6, .b false)])) (.e 0, []) (by simp) (by simp) (fun i hi => by
    have hw := wrap_i64 (i + 1) (by omega)
    cases h1 : outR (l[i]).1 a.length with
    | true =>
      by_cases h0 : (l[i]).1 < 0
      · simp [body16_1, hi, badV, h1, h0]
      · have h0' : (a.length : Int) ≤ (l[i]).1 := by simp [outR, h0] at h1; exact h1
        simp [body16_1, hi, badV, h1, h0, h0']
    | false =>
      obtain ⟨p, hp, hpa⟩ := outR_false h1
      have hpn : ¬ (p : Int) < 0 := by omega
      have hpn' : ¬ (a.length : Int) ≤ (p : Int) := by omega
      cases h2 : outR (l[i]).2.1 b.length with
      | true =>
        by_cases h0 : (l[i]).2.1 < 0
        · simp [body16_1, hi, badV, h2, hp, hpn, hpn', h0]
        · have h0' : (b.length : Int) ≤ (l[i]).2.1 := by simp [outR, h0] at h2; exact h2
          simp [body16_1, hi, badV, h2, hp, hpn, hpn', h0, h0']
      | false =>
        obtain ⟨q, hq, hqb⟩ := outR_false h2
        have hqn : ¬ (q : Int) < 0 := by omega
        have hqn' : ¬ (b.length : Int) ≤ (q : Int) := by omega
        have e1 : amtAt a p = a[p].amount := by simp [amtAt, hpa]
        have e2 : amtAt b q = b[q].amount := by simp [amtAt, hqb]
        have k1 := o33 (X := X) l p true h
        have k2 := o33 (X := X) l q false h
        rw [hp] at h1; rw [hq] at h2
        by_cases h3 : a[p].amount = b[q].amount
        · by_cases h4 : atP l p true = i
          · by_cases h5 : atP l q false = i
            · simp [body16_1, hi, hw, badV, h1, h2, e1, e2, hp, hq, hpn, hpn', hqn, hqn', hpa, hqb, h3, h4, h5, k1, k2]
            · simp [body16_1, hi, badV, e1, e2, hp, hq, hpn, hpn', hqn, hqn', hpa, hqb, h3, h4, h5, k1, k2]
          · simp [body16_1, hi, badV, e1, e2, hp, hq, hpn, hpn', hqn, hqn', hpa, hqb, h3, h4, k1]
        · simp [body16_1, hi, badV, e1, e2, hp, hq, hpn, hpn', hqn, hqn', hpa, hqb, h3]) (by simp [body16_1]) (by simp)
  exact this
theorem o16 (a b : List Item) (l : List Tri) (h : l.length ≤ 1000000) : O X 16 [.l (items a), .l (items b), .l (tris l)] = some (.b (validP a b l)) := by
  refine orun (fc := code16) rfl rfl rfl ?_
  have hl := l16 (X := X) a b l h
  cases hq : (List.range l.length).findSome? (badV a b l) <;> rw [hq] at hl <;> simp [code16, exec_loopK, hl, validP, hq]
end
end Go.Proofs.Ytmhpmghhgppdnaa
