/-
  What the functions that the laws reach compute: owners, what belongs to a row, roots, Check.
-/
import Derived.Test.YtmhbkofbbkogeaaSpec
namespace Go.Proofs.Ytmhbkofbbkogeaa
open Go.VM
variable {X : Orc}
/-! ### Accounts -/
def aAt (l : List Account) (id : Int) (i : Nat) : Option Nat := match l[i]? with
  | some a => if a.id = id then some i else none
  | none => none
def posA (l : List Account) (id : Int) : Option Nat := (List.range l.length).findSome? (aAt l id)
theorem posA_some {l : List Account} {id : Int} {i : Nat} (h : posA l id = some i) : ∃ hi : i < l.length, l[i].id = id := by
  unfold posA at h
  obtain ⟨k, hk, hp⟩ := List.exists_of_findSome?_eq_some h
  have hk' : k < l.length := List.mem_range.1 hk
  simp [aAt, hk'] at hp
  obtain ⟨h1, rfl⟩ := hp
  exact ⟨hk', h1⟩
def a0 : Account := ⟨0, 0, 0, 0, [], [], []⟩
def aV (l : List Account) : Option Nat → V
  | some i => match l[i]? with
    | some a => .t [a.v, .b true]
    | none => .t [a0.v, .b false]
  | none => .t [a0.v, .b false]
theorem e52 (a : Account) (id : Int) : O X 52 [a.v, .r [.i .i64 id]] = some (.b (decide (a.id = id))) := by
  refine orun (fc := code52) rfl rfl rfl ?_; simp [code52]
theorem l51 (l : List Account) (id : Int) (h : l.length ≤ 1000) : loopK (O X) [0, 1, 7, 8] body51_1 [(0, .l (encA l)), (1, .f (.func 52) [] [.r [.i .i64 id]]), (7, .i .i64 l.length), (8, .i .i64 0)] = some (optE (fun (i : Nat) => (.r, [(4, .i .i64 i)])) (.e 0, []) (posA l id)) := by
  have := loopK_code (o := O X) (kin := [0, 1, 7, 8]) (c := body51_1) (fun i => [(0, .l (encA l)), (1, .f (.func 52) [] [.r [.i .i64 id]]), (7, .i .i64 l.length), (8, .i .i64 i)]) l.length (aAt l id) (fun (i : Nat) => (.r, [(4, .i .i64 i)])) (.e 0, []) (by simp) (by simp) (fun i hi => by
    have hw := wrap_i64 (i + 1) (by omega)
    have h52 := e52 (X := X) l[i] id
    by_cases hc : l[i].id = id
    · subst hc
      simp at h52
      simp [body51_1, hi, aAt, h52]
    · simp [hc] at h52
      simp [body51_1, hi, hw, aAt, hc, h52]) (by simp [body51_1]) (by simp)
  exact this
theorem e51 (l : List Account) (id : Int) (h : l.length ≤ 1000) : O X 51 [.l (encA l), .f (.func 52) [] [.r [.i .i64 id]]] = some (posV (posA l id)) := by
  refine orun (fc := code51) rfl rfl rfl ?_
  have hl := l51 (X := X) l id h
  cases hq : posA l id <;> rw [hq] at hl <;> simp [code51, exec_loopK, hl, posV]
theorem e44 (b : Books) (id : Int) (h : b.accounts.length ≤ 1000) : O X 44 [b.v, .i .i64 id] = some (posV (posA b.accounts id)) := by
  refine orun (fc := code44) rfl rfl rfl ?_
  have h1 := e51 (X := X) b.accounts id h
  cases hq : posA b.accounts id <;> rw [hq] at h1 <;> simp [posV] at h1 <;> simp [code44, h1, posV]
theorem e31 (b : Books) (id : Int) (h : b.accounts.length ≤ 1000) : O X 31 [b.v, .i .i64 id] = some (aV b.accounts (posA b.accounts id)) := by
  refine orun (fc := code31) rfl rfl rfl ?_
  have h1 := e44 (X := X) b id h
  cases hq : posA b.accounts id with
  | none => rw [hq] at h1; simp [posV] at h1; simp [code31, h1, aV, a0]
  | some i =>
    obtain ⟨hi, _⟩ := posA_some hq
    have h2 : ¬ (i : Int) < 0 := by omega
    rw [hq] at h1; simp [posV] at h1; simp [code31, h1, h2, hi, aV]
theorem l33 (b : Books) (id : Int) (h : b.accounts.length ≤ 1000) : loopK (O X) [1, 2, 4, 6] body33_1 [(1, .i .i64 id), (2, .bx b.cells), (4, .bx a0.cells), (6, .i .i64 0)] = some (optE (fun (i : Nat) => (.r, [(4, .bx ((b.accounts[i]?.getD a0).cells)), (5, .b true)])) (.e 0, [(4, .bx a0.cells)]) (posA b.accounts id)) := by
  have := loopK_code (o := O X) (kin := [1, 2, 4, 6]) (c := body33_1) (fun i => [(1, .i .i64 id), (2, .bx b.cells), (4, .bx a0.cells), (6, .i .i64 i)]) b.accounts.length (aAt b.accounts id) (fun (i : Nat) => (.r, [(4, .bx ((b.accounts[i]?.getD a0).cells)), (5, .b true)])) (.e 0, [(4, .bx a0.cells)]) (by simp) (by simp) (fun i hi => by
    have hw := wrap_i64 (i + 1) (by omega)
    by_cases hc : b.accounts[i].id = id <;> simp [body33_1, hi, hw, aAt, hc]) (by simp [body33_1]) (by simp)
  exact this
theorem e33 (b : Books) (id : Int) (h : b.accounts.length ≤ 1000) : O X 33 [b.v, .i .i64 id] = some (aV b.accounts (posA b.accounts id)) := by
  refine orun (fc := code33) rfl rfl rfl ?_
  have hl := l33 (X := X) b id h
  cases hq : posA b.accounts id with
  | none => rw [hq] at hl; simp [a0] at hl; simp [code33, exec_loopK, hl, aV, a0]
  | some i =>
    obtain ⟨hi, _⟩ := posA_some hq
    rw [hq] at hl; simp [a0, hi] at hl; simp [code33, exec_loopK, hl, aV, hi]
/-! ### Owners -/
def owner (b : Books) (id : Int) : Int := if (findG b.chart id).isSome = true then id else if (posA b.accounts id).isSome = true then b.plan.deposits else 0
structure Fine (b : Books) : Prop where
  chart : b.chart.length ≤ 1000
  accs : b.accounts.length ≤ 1000
  curs : b.currencies.length ≤ 1000
  jour : b.journal.length ≤ 1000
  legs : ∀ e ∈ b.journal, e.legs.length ≤ 1000
theorem e11 (b : Books) (id : Int) (h : Fine b) : O X 11 [b.v, .i .i64 id] = some (.i .i64 (owner b id)) := by
  refine orun (fc := code11) rfl rfl rfl ?_
  have h1 := e30 (X := X) b.chart id h.chart
  have h2 := e31 (X := X) b id h.accs
  unfold owner
  cases hg : findG b.chart id with
  | some g => rw [hg] at h1; simp [gV] at h1; simp [code11, h1]
  | none =>
    rw [hg] at h1; simp [gV, g0] at h1
    cases ha : posA b.accounts id with
    | none => rw [ha] at h2; simp [aV, a0] at h2; simp [code11, h1, h2]
    | some i =>
      obtain ⟨hi, _⟩ := posA_some ha
      rw [ha] at h2; simp [aV, hi] at h2; simp [code11, h1, h2]
theorem e12 (b : Books) (id : Int) (h : Fine b) : O X 12 [b.v, .i .i64 id] = some (.i .i64 (owner b id)) := by
  refine orun (fc := code12) rfl rfl rfl ?_
  have h1 := e32 (X := X) b.chart id h.chart
  have h2 := e33 (X := X) b id h.accs
  unfold owner
  cases hg : findG b.chart id with
  | some g => rw [hg] at h1; simp [gV] at h1; simp [code12, h1]
  | none =>
    rw [hg] at h1; simp [gV, g0] at h1
    cases ha : posA b.accounts id with
    | none => rw [ha] at h2; simp [aV, a0] at h2; simp [code12, h1, h2]
    | some i =>
      obtain ⟨hi, _⟩ := posA_some ha
      rw [ha] at h2; simp [aV, hi] at h2; simp [code12, h1, h2]
/-! ### What belongs to a row -/
def uAt (c : List Gl) (ow : Int) (l : List Int) (i : Nat) : Option Nat := match l[i]? with
  | some r => if under c ow r = true then some i else none
  | none => none
def posU (c : List Gl) (ow : Int) (l : List Int) : Option Nat := (List.range l.length).findSome? (uAt c ow l)
def belongsB (b : Books) (r : Row) (id : Int) : Bool := decide (owner b id ≠ 0) && (posU b.chart (owner b id) r.roots).isSome
theorem e54 (b : Books) (ow root : Int) (h : b.chart.length ≤ 1000) : O X 54 [.i .i64 root, .r b.cells, .r [.i .i64 ow]] = some (.b (under b.chart ow root)) := by
  refine orun (fc := code54) rfl rfl rfl ?_
  have h1 := e42 (X := X) b.chart ow root h
  simp [code54, h1]
theorem l57 (b : Books) (ow : Int) (l : List Int) (hb : b.chart.length ≤ 1000) (h : l.length ≤ 1000) : loopK (O X) [0, 1, 7, 8] body57_1 [(0, .l (ints l)), (1, .f (.func 54) [] [.r b.cells, .r [.i .i64 ow]]), (7, .i .i64 l.length), (8, .i .i64 0)] = some (optE (fun (i : Nat) => (.r, [(4, .i .i64 i)])) (.e 0, []) (posU b.chart ow l)) := by
  have := loopK_code (o := O X) (kin := [0, 1, 7, 8]) (c := body57_1) (fun i => [(0, .l (ints l)), (1, .f (.func 54) [] [.r b.cells, .r [.i .i64 ow]]), (7, .i .i64 l.length), (8, .i .i64 i)]) l.length (uAt b.chart ow l) (fun (i : Nat) => (.r, [(4, .i .i64 i)])) (.e 0, []) (by simp) (by simp) (fun i hi => by
    have hw := wrap_i64 (i + 1) (by omega)
    have h54 := e54 (X := X) b ow l[i] hb
    cases hc : under b.chart ow l[i] <;> rw [hc] at h54 <;> simp [body57_1, hi, hw, uAt, hc, h54]) (by simp [body57_1]) (by simp)
  exact this
theorem e57 (b : Books) (ow : Int) (l : List Int) (hb : b.chart.length ≤ 1000) (h : l.length ≤ 1000) : O X 57 [.l (ints l), .f (.func 54) [] [.r b.cells, .r [.i .i64 ow]]] = some (posV (posU b.chart ow l)) := by
  refine orun (fc := code57) rfl rfl rfl ?_
  have hl := l57 (X := X) b ow l hb h
  cases hq : posU b.chart ow l <;> rw [hq] at hl <;> simp [code57, exec_loopK, hl, posV]
theorem e53 (b : Books) (ow : Int) (l : List Int) (hb : b.chart.length ≤ 1000) (h : l.length ≤ 1000) : O X 53 [.l (ints l), .f (.func 54) [] [.r b.cells, .r [.i .i64 ow]]] = some (.b (posU b.chart ow l).isSome) := by
  refine orun (fc := code53) rfl rfl rfl ?_
  have hl := e57 (X := X) b ow l hb h
  cases hq : posU b.chart ow l <;> rw [hq] at hl <;> simp [posV] at hl <;> simp [code53, hl]
theorem e45 (b : Books) (r : Row) (id : Int) (h : Fine b) (hr : r.roots.length ≤ 1000) : O X 45 [b.v, r.v, .i .i64 id] = some (.b (belongsB b r id)) := by
  refine orun (fc := code45) rfl rfl rfl ?_
  have h1 := e11 (X := X) b id h
  have h2 := e53 (X := X) b (owner b id) r.roots h.chart hr
  unfold belongsB
  generalize owner b id = ow at h1 h2
  by_cases hc : ow = 0
  · subst hc; simp [code45, h1]
  · simp [code45, h1, h2, hc]
theorem l46 (b : Books) (r : Row) (ow : Int) (hb : b.chart.length ≤ 1000) (hr : r.roots.length ≤ 1000) (h0 : ow ≠ 0) : loopK (O X) [3, 4, 7, 8] body46_1 [(3, .bx b.cells), (4, .bx r.cells), (7, .i .i64 ow), (8, .i .i64 0)] = some (optE (fun (_ : Nat) => (.r, [(6, .b true)])) (.e 0, []) (posU b.chart ow r.roots)) := by
  have := loopK_code (o := O X) (kin := [3, 4, 7, 8]) (c := body46_1) (fun i => [(3, .bx b.cells), (4, .bx r.cells), (7, .i .i64 ow), (8, .i .i64 i)]) r.roots.length (uAt b.chart ow r.roots) (fun (_ : Nat) => (.r, [(6, .b true)])) (.e 0, []) (by simp) (by simp) (fun i hi => by
    have hw := wrap_i64 (i + 1) (by omega)
    have h43 := e43 (X := X) b.chart ow r.roots[i] hb
    cases hc : under b.chart ow r.roots[i] <;> rw [hc] at h43 <;> simp [body46_1, hi, hw, uAt, hc, h43, h0]) (by simp [body46_1]) (by simp)
  exact this
theorem l46z (b : Books) (r : Row) (hr : r.roots.length ≤ 1000) : loopK (O X) [3, 4, 7, 8] body46_1 [(3, .bx b.cells), (4, .bx r.cells), (7, .i .i64 0), (8, .i .i64 0)] = some (.e 0, []) := by
  have := loopK_run (o := O X) (kin := [3, 4, 7, 8]) (c := body46_1) (fun i => [(3, .bx b.cells), (4, .bx r.cells), (7, .i .i64 0), (8, .i .i64 i)]) r.roots.length (.e 0, []) (by simp) (fun i hi => by
    have hw := wrap_i64 (i + 1) (by omega)
    simp [body46_1, hi, hw]) (by simp [body46_1]) (by simp)
  exact this
theorem e46 (b : Books) (r : Row) (id : Int) (h : Fine b) (hr : r.roots.length ≤ 1000) : O X 46 [b.v, r.v, .i .i64 id] = some (.b (belongsB b r id)) := by
  refine orun (fc := code46) rfl rfl rfl ?_
  have h1 := e12 (X := X) b id h
  unfold belongsB
  generalize owner b id = ow at h1
  by_cases hc : ow = 0
  · subst hc
    have hl := l46z (X := X) b r hr
    simp [code46, exec_loopK, h1, hl]
  · have hl := l46 (X := X) b r ow h.chart hr hc
    cases hq : posU b.chart ow r.roots <;> rw [hq] at hl <;> simp [code46, exec_loopK, h1, hl, hc]
end Go.Proofs.Ytmhbkofbbkogeaa
