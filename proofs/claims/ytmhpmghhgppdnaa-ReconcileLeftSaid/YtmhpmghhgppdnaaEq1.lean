/-
  What the functions compute: what is great, sums, gaps.
-/
import Derived.Test.YtmhpmghhgppdnaaTab
import Derived.Test.YtmhpmghhgppdnaaVmN
namespace Go.Proofs.Ytmhpmghhgppdnaa
open Go.VM Go.RowKit
section
variable {X : Orc}
def grB (l : List Item) (i : Nat) : Option Unit := match l[i]? with
  | some x => if 200 < x.ref.length then some () else none
  | none => none
def greatP (l : List Item) : Bool := ((List.range (min l.length 61)).findSome? (grB l)).isSome || decide (60 < l.length)
theorem l9 (l : List Item) : loopK (O X) [0, 3] body9_1 [(0, .l (items l)), (3, .i .i64 0)] = some (optE (fun _ => (.r, [(2, .b true)])) (.e 0, [(0, .l (items l))]) ((List.range (min l.length 61)).findSome? (grB l))) := by
  have := loopK_code (o := O X) (kin := [0, 3]) (c := body9_1) (fun i => [(0, .l (items l)), (3, .i .i64 i)]) (min l.length 61) (grB l) (fun _ => (.r, [(2, .b true)])) (.e 0, [(0, .l (items l))]) (by simp) (by simp) (fun i hi => by
    have hw := wrap_i64 (i + 1) (by omega)
    have hi1 : i < l.length := by omega
    have hi2 : (i : Int) ≤ 60 := by omega
    by_cases h : 200 < (l[i]).ref.length
    · have h' : (200 : Int) < ((l[i]).ref.length : Int) := by omega
      simp [body9_1, hi1, hi2, hw, grB, h, h']
    · have h' : ¬ (200 : Int) < ((l[i]).ref.length : Int) := by omega
      simp [body9_1, hi1, hi2, hw, grB, h, h']) (by
    by_cases h : l.length ≤ 60
    · have : min l.length 61 = l.length := by omega
      simp [body9_1, this]
    · have : min l.length 61 = 61 := by omega
      have h2 : (61 : Int) < (l.length : Int) ∨ ¬ (61 : Int) < (l.length : Int) := by omega
      rcases h2 with h2 | h2 <;> simp [body9_1, this, h2]) (by simp)
  exact this
theorem o9 (l : List Item) : O X 9 [.l (items l)] = some (.b (greatP l)) := by
  refine orun (fc := code9) rfl rfl rfl ?_
  have hl := l9 (X := X) l
  have h1 : (60 : Int) < (l.length : Int) ↔ 60 < l.length := by omega
  cases hq : (List.range (min l.length 61)).findSome? (grB l) <;> rw [hq] at hl <;> simp [code9, exec_loopK, hl, greatP, hq, h1]
theorem greatP_len {l : List Item} (h : greatP l = false) : l.length ≤ 60 := by
  simp only [greatP, Bool.or_eq_false_iff, decide_eq_false_iff_not] at h
  omega
def validA (n : Int) : Bool := decide (-1000000000000 ≤ n) && decide (n ≤ 1000000000000)
theorem o36 (n : Int) : O X 36 [.i .i64 n] = some (.b (validA n)) := by
  refine orun (fc := code36) rfl rfl rfl ?_
  by_cases h1 : (-1000000000000 : Int) ≤ n <;> simp [code36, validA, h1]
theorem o38 (n : Int) : O X 38 [.i .i64 n] = some (.b (validA n)) := by
  refine orun (fc := code38) rfl rfl rfl ?_
  by_cases h1 : (-1000000000000 : Int) ≤ n <;> simp [code38, validA, h1]
def psum (l : List Item) : Nat → Int
  | 0 => 0
  | i + 1 => IntKind.i64.wrap (psum l i + (l[i]?.map (·.amount)).getD 0)
def badA (l : List Item) (i : Nat) : Option Unit := match l[i]? with
  | some x => if validA x.amount = true then none else some ()
  | none => none
def sumV (l : List Item) : V := match (List.range l.length).findSome? (badA l) with
  | some _ => .t [.i .i64 0, .b false]
  | none => .t [.i .i64 (psum l l.length), .b true]
theorem l35 (l : List Item) (h : l.length ≤ 4096) : loopK (O X) [4, 7, 8, 9] body35_1 [(4, .i .i64 0), (7, .l (items l)), (8, .i .i64 l.length), (9, .i .i64 0)] = some (optE (fun _ => (.r, [(2, .i .i64 0), (3, .b false)])) (.e 0, [(4, .i .i64 (psum l l.length))]) ((List.range l.length).findSome? (badA l))) := by
  have := loopK_code (o := O X) (kin := [4, 7, 8, 9]) (c := body35_1) (fun i => [(4, .i .i64 (psum l i)), (7, .l (items l)), (8, .i .i64 l.length), (9, .i .i64 i)]) l.length (badA l) (fun _ => (.r, [(2, .i .i64 0), (3, .b false)])) (.e 0, [(4, .i .i64 (psum l l.length))]) (by simp) (by simp) (fun i hi => by
    have hw := wrap_i64 (i + 1) (by omega)
    cases hv : validA (l[i]).amount <;> simp [body35_1, hi, hw, badA, o36, hv, psum]) (by simp [body35_1]) (by simp)
  exact this
theorem o35 (l : List Item) (h : l.length ≤ 4096) : O X 35 [.l (items l)] = some (sumV l) := by
  refine orun (fc := code35) rfl rfl rfl ?_
  have hl := l35 (X := X) l h
  cases hq : (List.range l.length).findSome? (badA l) <;> rw [hq] at hl <;> simp [code35, exec_loopK, hl, sumV, hq]
theorem l37 (l : List Item) (h : l.length ≤ 4096) : loopK (O X) [0, 4, 5] body37_1 [(0, .l (items l)), (4, .i .i64 0), (5, .i .i64 0)] = some (optE (fun _ => (.r, [(2, .i .i64 0), (3, .b false)])) (.e 0, [(4, .i .i64 (psum l l.length))]) ((List.range l.length).findSome? (badA l))) := by
  have := loopK_code (o := O X) (kin := [0, 4, 5]) (c := body37_1) (fun i => [(0, .l (items l)), (4, .i .i64 (psum l i)), (5, .i .i64 i)]) l.length (badA l) (fun _ => (.r, [(2, .i .i64 0), (3, .b false)])) (.e 0, [(4, .i .i64 (psum l l.length))]) (by simp) (by simp) (fun i hi => by
    have hw := wrap_i64 (i + 1) (by omega)
    cases hv : validA (l[i]).amount <;> simp [body37_1, hi, hw, badA, o38, hv, psum]) (by simp [body37_1]) (by simp)
  exact this
theorem o37 (l : List Item) (h : l.length ≤ 4096) : O X 37 [.l (items l)] = some (sumV l) := by
  refine orun (fc := code37) rfl rfl rfl ?_
  have hl := l37 (X := X) l h
  cases hq : (List.range l.length).findSome? (badA l) <;> rw [hq] at hl <;> simp [code37, exec_loopK, hl, sumV, hq]
/-- Sums, and the gap. -/
def sumO (l : List Item) : Option Int := match (List.range l.length).findSome? (badA l) with
  | some _ => none
  | none => some (psum l l.length)
theorem sumV_eq (l : List Item) : sumV l = .t [.i .i64 ((sumO l).getD 0), .b (sumO l).isSome] := by
  unfold sumV sumO
  cases (List.range l.length).findSome? (badA l) <;> rfl
def gapR (a b : List Item) : Int × Int := match sumO a, sumO b with
  | some x, some y => if validA (IntKind.i64.wrap (x - y)) = true then (IntKind.i64.wrap (x - y), 0) else (0, 6)
  | _, _ => (0, 1)
theorem o17 (a b : List Item) (ha : a.length ≤ 4096) (hb : b.length ≤ 4096) : O X 17 [.l (items a), .l (items b)] = some (.t [.i .i64 (gapR a b).1, .i .i64 (gapR a b).2]) := by
  refine orun (fc := code17) rfl rfl rfl ?_
  have h1 := o35 (X := X) a ha
  have h2 := o35 (X := X) b hb
  rw [sumV_eq] at h1 h2
  have ha' : ¬ (4096 : Int) < (a.length : Int) := by omega
  have hb' : ¬ (4096 : Int) < (b.length : Int) := by omega
  cases hx : sumO a with
  | none => rw [hx] at h1; simp [code17, h1, h2, ha', hb', gapR, hx]
  | some x =>
    rw [hx] at h1
    cases hy : sumO b with
    | none => rw [hy] at h2; simp [code17, h1, h2, ha', hb', gapR, hx, hy]
    | some y =>
      rw [hy] at h2
      cases hv : validA (IntKind.i64.wrap (x - y)) <;> simp [code17, h1, h2, ha', hb', gapR, hx, hy, o36, hv]
theorem o18 (a b : List Item) (ha : a.length ≤ 4096) (hb : b.length ≤ 4096) : O X 18 [.l (items a), .l (items b)] = some (.t [.i .i64 (gapR a b).1, .i .i64 (gapR a b).2]) := by
  refine orun (fc := code18) rfl rfl rfl ?_
  have h1 := o37 (X := X) a ha
  have h2 := o37 (X := X) b hb
  rw [sumV_eq] at h1 h2
  have ha' : ¬ (4096 : Int) < (a.length : Int) := by omega
  have hb' : ¬ (4096 : Int) < (b.length : Int) := by omega
  cases hx : sumO a with
  | none => rw [hx] at h1; simp [code18, h1, h2, ha', hb', gapR, hx]
  | some x =>
    rw [hx] at h1
    cases hy : sumO b with
    | none => rw [hy] at h2; simp [code18, h1, h2, ha', hb', gapR, hx, hy]
    | some y =>
      rw [hy] at h2
      cases hv : validA (IntKind.i64.wrap (x - y)) <;> simp [code18, h1, h2, ha', hb', gapR, hx, hy, o38, hv]
theorem o5 (hlive : O X 10 [] = some (.b true)) (a b : List Item) : O X 5 [.l (items a), .l (items b)] = some (.b true) := by
  refine orun (fc := code5) rfl rfl rfl ?_
  have h1 := o9 (X := X) a
  have h2 := o9 (X := X) b
  cases ha : greatP a with
  | true => rw [ha] at h1; simp [code5, h1, hlive]
  | false =>
    cases hb : greatP b with
    | true => rw [ha] at h1; rw [hb] at h2; simp [code5, h1, h2, hlive]
    | false =>
      have la := greatP_len ha
      have lb := greatP_len hb
      have h3 := o17 (X := X) a b (by omega) (by omega)
      have h4 := o18 (X := X) a b (by omega) (by omega)
      rw [ha] at h1; rw [hb] at h2
      simp [code5, h1, h2, h3, h4, hlive]
end
end Go.Proofs.Ytmhpmghhgppdnaa
