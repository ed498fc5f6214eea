/-
  What the functions that the laws reach compute: roots, Check, currencies, lists that are the same.
-/
import Derived.Test.YtmhbkofbbkogeaaSpec2
namespace Go.Proofs.Ytmhbkofbbkogeaa
open Go.VM
variable {X : Orc}
/-! ### Roots -/
def dupAt (c : List Gl) (l : List Int) (x : Int) (k : Nat) : Option Unit := match l[k]? with
  | some y => if under c x y = true ∨ under c y x = true then some () else none
  | none => none
def rootAt (c : List Gl) (l : List Int) (i : Nat) : Option Int := match l[i]? with
  | some x => if findG c x = none then some 11 else if ((List.range i).findSome? (dupAt c l x)).isSome = true then some 12 else none
  | none => none
def rootE (c : List Gl) (l : List Int) : Int := ((List.range l.length).findSome? (rootAt c l)).getD 0
theorem l27i (b : Books) (l : List Int) (i : Nat) (hi : i < l.length) (hb : b.chart.length ≤ 1000) (h : l.length ≤ 1000) : loopK (O X) [1, 2, 6, 11, 12, 13, 29, 30, 31] body27_1 [(1, .l (ints l)), (2, .bx b.cells), (6, .i .i64 l[i]), (11, .l (ints l)), (12, .i .i64 l.length), (13, .i .i64 i), (29, .l (ints (l.take i))), (30, .i .i64 i), (31, .i .i64 0)] =
    some (optE (fun (_ : Unit) => (.r, [(4, .i .i64 12)])) (.e 2, [(1, .l (ints l)), (2, .bx b.cells), (11, .l (ints l)), (12, .i .i64 l.length), (13, .i .i64 i)]) ((List.range i).findSome? (dupAt b.chart l l[i]))) := by
  have := loopK_code (o := O X) (kin := [1, 2, 6, 11, 12, 13, 29, 30, 31]) (c := body27_1) (fun k => [(1, .l (ints l)), (2, .bx b.cells), (6, .i .i64 l[i]), (11, .l (ints l)), (12, .i .i64 l.length), (13, .i .i64 i), (29, .l (ints (l.take i))), (30, .i .i64 i), (31, .i .i64 k)]) i (dupAt b.chart l l[i]) (fun (_ : Unit) => (.r, [(4, .i .i64 12)])) (.e 2, [(1, .l (ints l)), (2, .bx b.cells), (11, .l (ints l)), (12, .i .i64 l.length), (13, .i .i64 i)]) (by simp) (by simp) (fun k hk => by
    have hw := wrap_i64 (k + 1) (by omega)
    have hkl : k < l.length := by omega
    have hk2 : k < (l.take i).length := by rw [List.length_take]; omega
    have hte : (l.take i)[k] = l[k] := List.getElem_take
    have h1 := e42 (X := X) b.chart l[i] l[k] hb
    have h2 := e42 (X := X) b.chart l[k] l[i] hb
    have hkk : (k : Int) < (i : Int) := by omega
    generalize l.take i = m at hk2 hte ⊢
    cases c1 : under b.chart l[i] l[k] <;> rw [c1] at h1
    · cases c2 : under b.chart l[k] l[i] <;> rw [c2] at h2 <;> simp [body27_1, hk2, hte, hkk, hkl, hw, dupAt, h1, h2, c1, c2]
    · simp [body27_1, hk2, hte, hkk, hkl, dupAt, h1, c1]) (by simp [body27_1]) (by simp)
  exact this
theorem slc_ints (l : List Int) (i : Nat) (h : i ≤ l.length) : opQ (O X) (.slc 1 false true) [.l (ints l), .i .i64 i] = some (.l (ints (l.take i))) := by
  have hb : bnds (ints l).length false true [.i .i64 (i : Int)] = some (0, i) := by
    have : (i : Int) ≤ ((ints l).length : Int) := by simp; omega
    simp only [bnds]
    rw [if_pos ⟨by omega, this⟩]
    simp
  have ha : (ints l).all (fun x => x.cells.length == 1) = true := encL_all fun _ => rfl
  simp only [opQ, ha, if_true, hb, Option.map_some, List.drop_zero]
  simp [encL]
set_option maxHeartbeats 4000000 in
theorem l27 (b : Books) (l : List Int) (hb : b.chart.length ≤ 1000) (h : l.length ≤ 1000) : loopK (O X) [1, 2, 11, 12, 13] body27_2 [(1, .l (ints l)), (2, .bx b.cells), (11, .l (ints l)), (12, .i .i64 l.length), (13, .i .i64 0)] =
    some (optE (fun (e : Int) => (.r, [(4, .i .i64 e)])) (.e 0, []) ((List.range l.length).findSome? (rootAt b.chart l))) := by
  have := loopK_code (o := O X) (kin := [1, 2, 11, 12, 13]) (c := body27_2) (fun i => [(1, .l (ints l)), (2, .bx b.cells), (11, .l (ints l)), (12, .i .i64 l.length), (13, .i .i64 i)]) l.length (rootAt b.chart l) (fun (e : Int) => (.r, [(4, .i .i64 e)])) (.e 0, []) (by simp) (by simp) (fun i hi => by
    have hw := wrap_i64 (i + 1) (by omega)
    have hl := l27i (X := X) b l i hi hb h
    have h1 := e30 (X := X) b.chart l[i] hb
    have hs := slc_ints (X := X) l i (by omega)
    have hmin : min i l.length = i := by omega
    cases hg : findG b.chart l[i] with
    | none => rw [hg] at h1; simp [gV, g0] at h1; simp [body27_2, hi, rootAt, hg, h1]
    | some g =>
      rw [hg] at h1; simp [gV] at h1
      cases hq : (List.range i).findSome? (dupAt b.chart l l[i]) <;> rw [hq] at hl <;> simp at hl <;> simp [body27_2, exec_loopK, hi, hw, hs, hmin, rootAt, hg, h1, hq, hl]) (by simp [body27_2]) (by simp)
  exact this
theorem e27 (b : Books) (l : List Int) (hb : b.chart.length ≤ 1000) (h : l.length ≤ 1000) : O X 27 [b.v, .l (ints l)] = some (.i .i64 (rootE b.chart l)) := by
  refine orun (fc := code27) rfl rfl rfl ?_
  have hl := l27 (X := X) b l hb h
  unfold rootE
  cases hq : (List.range l.length).findSome? (rootAt b.chart l) <;> rw [hq] at hl <;> simp at hl <;> simp [code27, exec_loopK, hl]
theorem l29i (b : Books) (l : List Int) (i : Nat) (hi : i < l.length) (hb : b.chart.length ≤ 1000) (h : l.length ≤ 1000) : loopK (O X) [1, 2, 5, 8] body29_1 [(1, .l (ints l)), (2, .bx b.cells), (5, .i .i64 i), (8, .i .i64 0)] =
    some (optE (fun (_ : Unit) => (.r, [(4, .i .i64 12)])) (.e 2, [(1, .l (ints l)), (2, .bx b.cells), (5, .i .i64 i)]) ((List.range i).findSome? (dupAt b.chart l l[i]))) := by
  have := loopK_code (o := O X) (kin := [1, 2, 5, 8]) (c := body29_1) (fun k => [(1, .l (ints l)), (2, .bx b.cells), (5, .i .i64 i), (8, .i .i64 k)]) i (dupAt b.chart l l[i]) (fun (_ : Unit) => (.r, [(4, .i .i64 12)])) (.e 2, [(1, .l (ints l)), (2, .bx b.cells), (5, .i .i64 i)]) (by simp) (by simp) (fun k hk => by
    have hw := wrap_i64 (k + 1) (by omega)
    have hkl : k < l.length := by omega
    have h1 := e43 (X := X) b.chart l[i] l[k] hb
    have h2 := e43 (X := X) b.chart l[k] l[i] hb
    have hkk : (k : Int) < (i : Int) := by omega
    cases c1 : under b.chart l[i] l[k] <;> rw [c1] at h1
    · cases c2 : under b.chart l[k] l[i] <;> rw [c2] at h2 <;> simp [body29_1, hi, hkk, hkl, hw, dupAt, h1, h2, c1, c2]
    · simp [body29_1, hi, hkk, hkl, dupAt, h1, c1]) (by simp [body29_1]) (by simp)
  exact this
set_option maxHeartbeats 4000000 in
theorem l29 (b : Books) (l : List Int) (hb : b.chart.length ≤ 1000) (h : l.length ≤ 1000) : loopK (O X) [1, 2, 5] body29_2 [(1, .l (ints l)), (2, .bx b.cells), (5, .i .i64 0)] =
    some (optE (fun (e : Int) => (.r, [(4, .i .i64 e)])) (.e 0, []) ((List.range l.length).findSome? (rootAt b.chart l))) := by
  have := loopK_code (o := O X) (kin := [1, 2, 5]) (c := body29_2) (fun i => [(1, .l (ints l)), (2, .bx b.cells), (5, .i .i64 i)]) l.length (rootAt b.chart l) (fun (e : Int) => (.r, [(4, .i .i64 e)])) (.e 0, []) (by simp) (by simp) (fun i hi => by
    have hw := wrap_i64 (i + 1) (by omega)
    have hl := l29i (X := X) b l i hi hb h
    have h1 := e32 (X := X) b.chart l[i] hb
    cases hg : findG b.chart l[i] with
    | none => rw [hg] at h1; simp [gV, g0] at h1; simp (config := { maxSteps := 2000000 }) [body29_2, hi, rootAt, hg, h1]
    | some g =>
      rw [hg] at h1; simp [gV] at h1
      cases hq : (List.range i).findSome? (dupAt b.chart l l[i]) <;> rw [hq] at hl <;> simp at hl <;> simp (config := { maxSteps := 2000000 }) [body29_2, exec_loopK, hi, hw, rootAt, hg, h1, hq, hl]) (by simp [body29_2]) (by simp)
  exact this
theorem e29 (b : Books) (l : List Int) (hb : b.chart.length ≤ 1000) (h : l.length ≤ 1000) : O X 29 [b.v, .l (ints l)] = some (.i .i64 (rootE b.chart l)) := by
  refine orun (fc := code29) rfl rfl rfl ?_
  have hl := l29 (X := X) b l hb h
  unfold rootE
  cases hq : (List.range l.length).findSome? (rootAt b.chart l) <;> rw [hq] at hl <;> simp at hl <;> simp [code29, exec_loopK, hl]
/-! ### Check -/
def rowAt (b : Books) (l : List Row) (i : Nat) : Option Int := match l[i]? with
  | some r => if nameOk r.name = false then some 4 else if r.sign ≠ 1 ∧ r.sign ≠ -1 then some 1 else if rootE b.chart r.roots ≠ 0 then some (rootE b.chart r.roots) else none
  | none => none
def chk (b : Books) (l : List Row) : Int := if l.length < 1 ∨ 64 < l.length then 5 else ((List.range l.length).findSome? (rowAt b l)).getD 0
structure Rows (l : List Row) : Prop where
  roots : ∀ r ∈ l, r.roots.length ≤ 1000
  name : ∀ r ∈ l, r.name.length ≤ maxLen
set_option maxHeartbeats 4000000 in
theorem l9 (b : Books) (l : List Row) (hb : b.chart.length ≤ 1000) (hl : Rows l) (h : l.length ≤ 64) : loopK (O X) [2, 16, 17, 18] body9_1 [(2, .bx b.cells), (16, .l (encR l)), (17, .i .i64 l.length), (18, .i .i64 0)] =
    some (optE (fun (e : Int) => (.r, [(4, .i .i64 e)])) (.e 0, []) ((List.range l.length).findSome? (rowAt b l))) := by
  have := loopK_code (o := O X) (kin := [2, 16, 17, 18]) (c := body9_1) (fun i => [(2, .bx b.cells), (16, .l (encR l)), (17, .i .i64 l.length), (18, .i .i64 i)]) l.length (rowAt b l) (fun (e : Int) => (.r, [(4, .i .i64 e)])) (.e 0, []) (by simp) (by simp) (fun i hi => by
    have hw := wrap_i64 (i + 1) (by omega)
    have hm : l[i] ∈ l := List.getElem_mem hi
    have h1 := e26 (X := X) l[i].name (hl.name _ hm)
    have h2 := e27 (X := X) b l[i].roots hb (hl.roots _ hm)
    cases hn : nameOk l[i].name with
    | false => rw [hn] at h1; simp [body9_1, hi, rowAt, h1, hn]
    | true =>
      rw [hn] at h1
      by_cases hs : l[i].sign = 1
      · by_cases h0 : rootE b.chart l[i].roots = 0
        · rw [h0] at h2; simp [body9_1, hi, hw, rowAt, h1, hn, hs, h2, h0]
        · simp [body9_1, hi, rowAt, h1, hn, hs, h2, h0]
      · by_cases hs' : l[i].sign = -1
        · by_cases h0 : rootE b.chart l[i].roots = 0
          · rw [h0] at h2; simp [body9_1, hi, hw, rowAt, h1, hn, hs', h2, h0]
          · simp [body9_1, hi, rowAt, h1, hn, hs', h2, h0]
        · simp [body9_1, hi, rowAt, h1, hn, hs, hs']) (by simp [body9_1]) (by simp)
  exact this
theorem e9 (b : Books) (l : List Row) (hb : b.chart.length ≤ 1000) (hl : Rows l) (_h : l.length ≤ maxLen) : O X 9 [b.v, .l (encR l)] = some (.i .i64 (chk b l)) := by
  refine orun (fc := code9) rfl rfl rfl ?_
  unfold chk
  by_cases h1 : l.length < 1
  · have h1' : (l.length : Int) < 1 := by omega
    simp [code9, h1, h1']
  · have h1' : ¬ (l.length : Int) < 1 := by omega
    by_cases h2 : 64 < l.length
    · have h2' : (64 : Int) < (l.length : Int) := by omega
      simp [code9, h1', h2, h2']
    · have h2' : ¬ (64 : Int) < (l.length : Int) := by omega
      have hk := l9 (X := X) b l hb hl (by omega)
      rw [if_neg (by omega)]
      cases hq : (List.range l.length).findSome? (rowAt b l) <;> rw [hq] at hk <;> simp at hk <;> simp [code9, exec_loopK, h1', h2', hk]
set_option maxHeartbeats 4000000 in
theorem l10 (b : Books) (l : List Row) (hb : b.chart.length ≤ 1000) (hl : Rows l) (h : l.length ≤ 64) : loopK (O X) [1, 2, 5] body10_1 [(1, .l (encR l)), (2, .bx b.cells), (5, .i .i64 0)] =
    some (optE (fun (e : Int) => (.r, [(4, .i .i64 e)])) (.e 0, []) ((List.range l.length).findSome? (rowAt b l))) := by
  have := loopK_code (o := O X) (kin := [1, 2, 5]) (c := body10_1) (fun i => [(1, .l (encR l)), (2, .bx b.cells), (5, .i .i64 i)]) l.length (rowAt b l) (fun (e : Int) => (.r, [(4, .i .i64 e)])) (.e 0, []) (by simp) (by simp) (fun i hi => by
    have hw := wrap_i64 (i + 1) (by omega)
    have hm : l[i] ∈ l := List.getElem_mem hi
    have h1 := e28 (X := X) l[i].name
    have h2 := e29 (X := X) b l[i].roots hb (hl.roots _ hm)
    cases hn : nameOk l[i].name with
    | false => rw [hn] at h1; simp [body10_1, hi, rowAt, h1, hn]
    | true =>
      rw [hn] at h1
      by_cases hs : l[i].sign = 1
      · by_cases h0 : rootE b.chart l[i].roots = 0
        · rw [h0] at h2; simp [body10_1, hi, hw, rowAt, h1, hn, hs, h2, h0]
        · simp [body10_1, hi, rowAt, h1, hn, hs, h2, h0]
      · by_cases hs' : l[i].sign = -1
        · by_cases h0 : rootE b.chart l[i].roots = 0
          · rw [h0] at h2; simp [body10_1, hi, hw, rowAt, h1, hn, hs', h2, h0]
          · simp [body10_1, hi, rowAt, h1, hn, hs', h2, h0]
        · simp [body10_1, hi, rowAt, h1, hn, hs, hs']) (by simp [body10_1]) (by simp)
  exact this
theorem e10 (b : Books) (l : List Row) (hb : b.chart.length ≤ 1000) (hl : Rows l) (_h : l.length ≤ maxLen) : O X 10 [b.v, .l (encR l)] = some (.i .i64 (chk b l)) := by
  refine orun (fc := code10) rfl rfl rfl ?_
  unfold chk
  by_cases h1 : l.length < 1
  · have h1' : (l.length : Int) < 1 := by omega
    simp [code10, h1, h1']
  · have h1' : ¬ (l.length : Int) < 1 := by omega
    by_cases h2 : 64 < l.length
    · have h2' : (64 : Int) < (l.length : Int) := by omega
      simp [code10, h1', h2, h2']
    · have h2' : ¬ (64 : Int) < (l.length : Int) := by omega
      have hk := l10 (X := X) b l hb hl (by omega)
      rw [if_neg (by omega)]
      cases hq : (List.range l.length).findSome? (rowAt b l) <;> rw [hq] at hk <;> simp at hk <;> simp [code10, exec_loopK, h1', h2', hk]
end Go.Proofs.Ytmhbkofbbkogeaa
