/-
  What the functions that the laws reach compute: the amounts of entries, sums, currencies, lists that are the same.
-/
import Derived.Test.YtmhbkofbbkogeaaSpec2
namespace Go.Proofs.Ytmhbkofbbkogeaa
open Go.VM
variable {X : Orc}
abbrev w (n : Int) : Int := IntKind.i64.wrap n
/-! ### Maps from texts to numbers -/
abbrev Am := List (List UInt8 × Int)
def kA (m : Am) : List V := m.map fun p => .s p.1
def vA (m : Am) : List V := m.map fun p => .i .i64 p.2
def setA (c : List UInt8) (n : Int) : Am → Am
  | [] => [(c, n)]
  | p :: r => if c = p.1 then (p.1, n) :: r else p :: setA c n r
def getO (c : List UInt8) : Am → Option Int
  | [] => none
  | p :: r => if c = p.1 then some p.2 else getO c r
def getA (c : List UInt8) (m : Am) : Int := (getO c m).getD 0
theorem kA_set (c : List UInt8) (n : Int) : ∀ m : Am, mkeys (.s c) (kA m) = kA (setA c n m)
  | [] => rfl
  | p :: r => by
    have ih := kA_set c n r
    simp only [kA, List.map_cons, mkeys, keyEq, decide_eq_true_eq, setA] at ih ⊢
    by_cases h : c = p.1
    · rw [if_pos h, if_pos h]; rfl
    · rw [if_neg h, if_neg h, ih]; rfl
theorem vA_set (c : List UInt8) (n : Int) : ∀ m : Am, mvals (.s c) (.i .i64 n) (kA m) (vA m) = vA (setA c n m)
  | [] => rfl
  | p :: r => by
    have ih := vA_set c n r
    simp only [kA, vA, List.map_cons, mvals, keyEq, decide_eq_true_eq, setA] at ih ⊢
    by_cases h : c = p.1
    · rw [if_pos h, if_pos h]; rfl
    · rw [if_neg h, if_neg h, ih]; rfl
theorem find_A (c : List UInt8) : ∀ m : Am, mfind (.s c) (kA m) (vA m) = (getO c m).map (V.i .i64)
  | [] => rfl
  | p :: r => by
    have ih := find_A c r
    simp only [kA, vA, List.map_cons, mfind, keyEq, decide_eq_true_eq, getO] at ih ⊢
    by_cases h : c = p.1
    · rw [if_pos h, if_pos h]; rfl
    · rw [if_neg h, if_neg h, ih]
theorem get_A (c : List UInt8) (m : Am) : (mfind (.s c) (kA m) (vA m)).getD (.i .i64 0) = .i .i64 (getA c m) := by
  rw [find_A, getA]; cases getO c m <;> rfl
theorem kA_all (m : Am) : (kA m).all (keyB 1) = true := by
  rw [List.all_eq_true]; intro x hx; obtain ⟨y, _, rfl⟩ := List.mem_map.1 hx; rfl
theorem getO_set (c d : List UInt8) (n : Int) : ∀ m : Am, getO d (setA c n m) = if d = c then some n else getO d m
  | [] => by simp [setA, getO]
  | p :: r => by
    have ih := getO_set c d n r
    simp only [setA]
    by_cases h : c = p.1
    · rw [if_pos h]
      simp only [getO]
      by_cases h2 : d = p.1
      · rw [if_pos h2, if_pos (h2.trans h.symm)]
      · rw [if_neg h2, if_neg fun e => h2 (e.trans h), if_neg h2]
    · rw [if_neg h]
      simp only [getO, ih]
      by_cases h2 : d = p.1
      · rw [if_pos h2, if_neg fun e => h (e.symm.trans h2), if_pos h2]
      · rw [if_neg h2, if_neg h2]
theorem getA_set (c d : List UInt8) (n : Int) (m : Am) : getA d (setA c n m) = if d = c then n else getA d m := by
  unfold getA; rw [getO_set]; split <;> rfl
@[simp] theorem resE_mp {env : Env} {K W : List V} (t : Nat) : resE env t (some (.mp K W)) = some (.mp K W, put t .ud env) := rfl
/-! ### Amounts -/
def legA (b : Books) (r : Row) (m : Am) (x : Leg) : Am := if belongsB b r x.account = true then setA x.currency (w (getA x.currency m + w (r.sign * x.amount))) m else m
def amountsA (b : Books) (r : Row) (e : Entry) : Am := e.legs.foldl (legA b r) []
def legN (b : Books) (r : Row) (c : List UInt8) (n : Int) (x : Leg) : Int := if x.currency = c ∧ belongsB b r x.account = true then w (n + x.amount) else n
def amountN (b : Books) (r : Row) (c : List UInt8) (e : Entry) : Int := w (r.sign * e.legs.foldl (legN b r c) 0)
theorem fold_take {α β : Type} (f : β → α → β) (z : β) (l : List α) {i : Nat} (hi : i < l.length) : (l.take (i + 1)).foldl f z = f ((l.take i).foldl f z) l[i] := by
  rw [List.take_succ_eq_append_getElem hi, List.foldl_append]; rfl
abbrev encL3 (l : List Leg) : List V := encL Leg.v l
set_option maxHeartbeats 4000000 in
theorem l35 (b : Books) (r : Row) (l : List Leg) (h : Fine b) (hr : r.roots.length ≤ 1000) (hl : l.length ≤ 1000) : loopK (O X) [3, 4, 7, 12, 13, 14] body35_1 [(3, .bx b.cells), (4, .bx r.cells), (7, .mp [] []), (12, .l (encL3 l)), (13, .i .i64 l.length), (14, .i .i64 0)] =
    some (.e 0, [(7, .mp (kA (l.foldl (legA b r) [])) (vA (l.foldl (legA b r) [])))]) := by
  have := loopK_run (o := O X) (kin := [3, 4, 7, 12, 13, 14]) (c := body35_1) (fun i => [(3, .bx b.cells), (4, .bx r.cells), (7, .mp (kA ((l.take i).foldl (legA b r) [])) (vA ((l.take i).foldl (legA b r) []))), (12, .l (encL3 l)), (13, .i .i64 l.length), (14, .i .i64 i)]) l.length (.e 0, [(7, .mp (kA (l.foldl (legA b r) [])) (vA (l.foldl (legA b r) [])))]) (by simp) (fun i hi => by
    have hw := wrap_i64 (i + 1) (by omega)
    have h1 := e45 (X := X) b r l[i].account h hr
    rw [fold_take _ _ _ hi]
    generalize (l.take i).foldl (legA b r) [] = m
    cases hc : belongsB b r l[i].account <;> rw [hc] at h1
    · have hL : legA b r m l[i] = m := by simp [legA, hc]
      rw [hL]
      generalize kA m = K
      generalize vA m = W
      simp [body35_1, hi, hw, h1]
    · have hL : legA b r m l[i] = setA l[i].currency (w (getA l[i].currency m + w (r.sign * l[i].amount))) m := by simp [legA, hc]
      rw [hL]
      have hk := kA_set l[i].currency (w (getA l[i].currency m + w (r.sign * l[i].amount))) m
      have hv := vA_set l[i].currency (w (getA l[i].currency m + w (r.sign * l[i].amount))) m
      have hg := get_A l[i].currency m
      have ha := kA_all m
      have h5 : keyB 1 (.s l[i].currency) = true := rfl
      generalize setA l[i].currency (w (getA l[i].currency m + w (r.sign * l[i].amount))) m = m' at hk hv ⊢
      generalize getA l[i].currency m = g at hk hv hg ⊢
      generalize kA m' = K' at hk ⊢
      generalize vA m' = W' at hv ⊢
      generalize kA m = K at hk hv hg ha ⊢
      generalize vA m = W at hv hg ⊢
      simp only [w] at hk hv
      have ha' : (∀ x, x ∈ K → keyB 1 x = true) = True := eq_true fun x hx => List.all_eq_true.1 ha x hx
      simp [body35_1, hi, hw, h1, hk, hv, hg, h5, ha']) (by simp [body35_1]) (by simp)
  simpa [kA, vA] using this
theorem e35 (b : Books) (r : Row) (e : Entry) (h : Fine b) (hr : r.roots.length ≤ 1000) (hl : e.legs.length ≤ 1000) : O X 35 [b.v, r.v, e.v] = some (.mp (kA (amountsA b r e)) (vA (amountsA b r e))) := by
  refine orun (fc := code35) rfl rfl rfl ?_
  have h1 := l35 (X := X) b r e.legs h hr hl
  unfold amountsA
  generalize e.legs.foldl (legA b r) [] = m at h1 ⊢
  generalize kA m = K at h1 ⊢
  generalize vA m = W at h1 ⊢
  simp [code35, exec_loopK, h1]
set_option maxHeartbeats 4000000 in
theorem l40 (b : Books) (r : Row) (c : List UInt8) (e : Entry) (h : Fine b) (hr : r.roots.length ≤ 1000) (hl : e.legs.length ≤ 1000) : loopK (O X) [2, 4, 5, 7, 9, 10] body40_1 [(2, .s c), (4, .bx b.cells), (5, .bx r.cells), (7, .bx e.cells), (9, .i .i64 0), (10, .i .i64 0)] =
    some (.e 0, [(5, .bx r.cells), (9, .i .i64 (e.legs.foldl (legN b r c) 0))]) := by
  have := loopK_run (o := O X) (kin := [2, 4, 5, 7, 9, 10]) (c := body40_1) (fun i => [(2, .s c), (4, .bx b.cells), (5, .bx r.cells), (7, .bx e.cells), (9, .i .i64 ((e.legs.take i).foldl (legN b r c) 0)), (10, .i .i64 i)]) e.legs.length (.e 0, [(5, .bx r.cells), (9, .i .i64 (e.legs.foldl (legN b r c) 0))]) (by simp) (fun i hi => by
    have hw := wrap_i64 (i + 1) (by omega)
    have h1 := e46 (X := X) b r e.legs[i].account h hr
    rw [fold_take _ _ _ hi]
    generalize (e.legs.take i).foldl (legN b r c) 0 = n
    unfold legN
    by_cases h2 : e.legs[i].currency = c
    · cases hc : belongsB b r e.legs[i].account <;> rw [hc] at h1 <;> simp [body40_1, hi, hw, h1, h2]
    · simp [body40_1, hi, hw, h2]) (by simp [body40_1]) (by simp)
  simpa using this
theorem e40 (b : Books) (r : Row) (c : List UInt8) (e : Entry) (h : Fine b) (hr : r.roots.length ≤ 1000) (hl : e.legs.length ≤ 1000) : O X 40 [b.v, r.v, .s c, e.v] = some (.i .i64 (amountN b r c e)) := by
  refine orun (fc := code40) rfl rfl rfl ?_
  have h1 := l40 (X := X) b r c e h hr hl
  unfold amountN
  generalize e.legs.foldl (legN b r c) 0 = n at h1 ⊢
  simp [code40, exec_loopK, h1]
theorem am_step {s n x g : Int} (hs : s = 1 ∨ s = -1) (hg : g = w (s * n)) : w (g + w (s * x)) = w (s * w (n + x)) := by
  subst hg
  rcases hs with rfl | rfl <;> simp only [w, IntKind.wrap_i64] <;> omega
theorem am_eq (b : Books) (r : Row) (c : List UInt8) (e : Entry) (hs : r.sign = 1 ∨ r.sign = -1) : getA c (amountsA b r e) = amountN b r c e := by
  have key : ∀ (l : List Leg) (m : Am) (n : Int), getA c m = w (r.sign * n) → getA c (l.foldl (legA b r) m) = w (r.sign * l.foldl (legN b r c) n) := by
    intro l
    induction l with
    | nil => intro m n h; exact h
    | cons x l ih =>
      intro m n h
      rw [List.foldl_cons, List.foldl_cons]
      refine ih _ _ ?_
      unfold legA legN
      cases hb : belongsB b r x.account with
      | false => simpa using h
      | true =>
        by_cases hc : x.currency = c
        · subst hc
          simp only [if_true, and_self, getA_set]
          rw [h]
          exact am_step hs rfl
        · have hc' : ¬ c = x.currency := fun e => hc e.symm
          simp only [if_true, and_true, if_neg hc, getA_set, if_neg hc']
          exact h
  exact key e.legs [] 0 (by simp [getA, getO, w, IntKind.wrap_i64])
/-! ### Sums -/
def jN (b : Books) (r : Row) (c : List UInt8) (bk : Int) (n : Int) (e : Entry) : Int := if bk < e.booked then n else w (n + amountN b r c e)
def sumN (b : Books) (r : Row) (c : List UInt8) (bk : Int) : Int := b.journal.foldl (jN b r c bk) 0
theorem w_rng (n : Int) : -9223372036854775808 ≤ w n ∧ w n ≤ 9223372036854775807 := by simp only [w, IntKind.wrap_i64]; omega
def cellE (n : Int) : Int := if n < -1000000000000 ∨ 1000000000000 < n then 6 else 0
def cellN (n : Int) : Int := if n < -1000000000000 ∨ 1000000000000 < n then 0 else n
set_option maxHeartbeats 4000000 in
theorem l37 (b : Books) (r : Row) (c : List UInt8) (bk : Int) (h : Fine b) (hr : r.roots.length ≤ 1000) : loopK (O X) [2, 3, 4, 5, 10, 11] body37_1 [(2, .s c), (3, .i .i64 bk), (4, .bx b.cells), (5, .bx r.cells), (10, .i .i64 0), (11, .i .i64 0)] =
    some (.e 0, [(10, .i .i64 (sumN b r c bk))]) := by
  have := loopK_run (o := O X) (kin := [2, 3, 4, 5, 10, 11]) (c := body37_1) (fun i => [(2, .s c), (3, .i .i64 bk), (4, .bx b.cells), (5, .bx r.cells), (10, .i .i64 ((b.journal.take i).foldl (jN b r c bk) 0)), (11, .i .i64 i)]) b.journal.length (.e 0, [(10, .i .i64 (sumN b r c bk))]) (by simp) (fun i hi => by
    have hj := h.jour
    have hw := wrap_i64 (i + 1) (by omega)
    have h1 := e40 (X := X) b r c b.journal[i] h hr (h.legs _ (List.getElem_mem hi))
    rw [fold_take _ _ _ hi]
    generalize (b.journal.take i).foldl (jN b r c bk) 0 = n
    unfold jN
    generalize amountN b r c b.journal[i] = a at h1
    by_cases h2 : bk < b.journal[i].booked
    · simp [body37_1, hi, hw, h2]
    · simp [body37_1, hi, hw, h2, h1]) (by simp [body37_1, sumN]) (by simp)
  simpa using this
theorem e37 (b : Books) (r : Row) (c : List UInt8) (bk : Int) (h : Fine b) (hr : r.roots.length ≤ 1000) : O X 37 [b.v, r.v, .s c, .i .i64 bk] = some (.t [.i .i64 (cellN (sumN b r c bk)), .i .i64 (cellE (sumN b r c bk))]) := by
  refine orun (fc := code37) rfl rfl rfl ?_
  have h1 := l37 (X := X) b r c bk h hr
  unfold cellN cellE
  generalize sumN b r c bk = n at h1 ⊢
  by_cases c1 : n < -1000000000000
  · simp [code37, exec_loopK, h1, c1]
  · by_cases c2 : 1000000000000 < n <;> simp [code37, exec_loopK, h1, c1, c2]
theorem e36 (n : Int) : O X 36 [.i .i64 n] = some (.b (decide (cellE n = 0))) := by
  refine orun (fc := code36) rfl rfl rfl ?_
  unfold cellE
  by_cases c1 : n < -1000000000000
  · have c1' : ¬ (-1000000000000 ≤ n) := by omega
    simp [code36, c1, c1']
  · have c1' : -1000000000000 ≤ n := by omega
    by_cases c2 : 1000000000000 < n
    · have c2' : ¬ n ≤ 1000000000000 := by omega
      simp [code36, c1', c2, c2']
    · have c2' : n ≤ 1000000000000 := by omega
      simp [code36, c1, c1', c2, c2']
/-! ### Currencies -/
def cAt (l : List Currency) (c : List UInt8) (i : Nat) : Option Currency := match l[i]? with
  | some x => if x.code = c then some x else none
  | none => none
def findC (l : List Currency) (c : List UInt8) : Option Currency := (List.range l.length).findSome? (cAt l c)
def c0 : Currency := ⟨[], 0⟩
def cV : Option Currency → V
  | some g => .t [g.v, .b true]
  | none => .t [c0.v, .b false]
theorem l38 (l : List Currency) (c : List UInt8) (h : l.length ≤ 1000) : loopK (O X) [1, 4, 8, 9, 10] body38_1 [(1, .s c), (4, .bx c0.cells), (8, .l (encC l)), (9, .i .i64 l.length), (10, .i .i64 0)] = some (optE (fun g => (.r, [(4, .bx g.cells), (5, .b true)])) (.e 0, [(4, .bx c0.cells)]) (findC l c)) := by
  have := loopK_code (o := O X) (kin := [1, 4, 8, 9, 10]) (c := body38_1) (fun i => [(1, .s c), (4, .bx c0.cells), (8, .l (encC l)), (9, .i .i64 l.length), (10, .i .i64 i)]) l.length (cAt l c) (fun g => (.r, [(4, .bx g.cells), (5, .b true)])) (.e 0, [(4, .bx c0.cells)]) (by simp) (by simp) (fun i hi => by
    have hw := wrap_i64 (i + 1) (by omega)
    by_cases hc : l[i].code = c <;> simp [body38_1, hi, hw, cAt, hc]) (by simp [body38_1]) (by simp)
  exact this
theorem e38 (l : List Currency) (c : List UInt8) (h : l.length ≤ 1000) : O X 38 [.l (encC l), .s c] = some (cV (findC l c)) := by
  refine orun (fc := code38) rfl rfl rfl ?_
  have hl := l38 (X := X) l c h
  cases hq : findC l c <;> rw [hq] at hl <;> simp [c0] at hl <;> simp [code38, exec_loopK, hl, cV, c0]
theorem l39 (l : List Currency) (c : List UInt8) (h : l.length ≤ 1000) : loopK (O X) [0, 1, 4, 6] body39_1 [(0, .l (encC l)), (1, .s c), (4, .bx c0.cells), (6, .i .i64 0)] = some (optE (fun g => (.r, [(4, .bx g.cells), (5, .b true)])) (.e 0, [(4, .bx c0.cells)]) (findC l c)) := by
  have := loopK_code (o := O X) (kin := [0, 1, 4, 6]) (c := body39_1) (fun i => [(0, .l (encC l)), (1, .s c), (4, .bx c0.cells), (6, .i .i64 i)]) l.length (cAt l c) (fun g => (.r, [(4, .bx g.cells), (5, .b true)])) (.e 0, [(4, .bx c0.cells)]) (by simp) (by simp) (fun i hi => by
    have hw := wrap_i64 (i + 1) (by omega)
    by_cases hc : l[i].code = c <;> simp [body39_1, hi, hw, cAt, hc]) (by simp [body39_1]) (by simp)
  exact this
theorem e39 (l : List Currency) (c : List UInt8) (h : l.length ≤ 1000) : O X 39 [.l (encC l), .s c] = some (cV (findC l c)) := by
  refine orun (fc := code39) rfl rfl rfl ?_
  have hl := l39 (X := X) l c h
  cases hq : findC l c <;> rw [hq] at hl <;> simp [c0] at hl <;> simp [code39, exec_loopK, hl, cV, c0]
/-! ### The same lists -/
theorem l19 (l : List Int) (h : l.length ≤ 1000000) : loopK (O X) [0, 1, 5] body19_1 [(0, .l (ints l)), (1, .l (ints l)), (5, .i .i64 0)] = some (.e 0, []) := by
  have := loopK_run (o := O X) (kin := [0, 1, 5]) (c := body19_1) (fun i => [(0, .l (ints l)), (1, .l (ints l)), (5, .i .i64 i)]) l.length (.e 0, []) (by simp) (fun i hi => by
    have hw := wrap_i64 (i + 1) (by omega)
    simp [body19_1, hi, hw]) (by simp [body19_1]) (by simp)
  exact this
theorem e19 (l : List Int) (h : l.length ≤ 1000000) : O X 19 [.l (ints l), .l (ints l)] = some (.b true) := by
  refine orun (fc := code19) rfl rfl rfl ?_
  have hl := l19 (X := X) l h
  simp [code19, exec_loopK, hl]
/-- 'Cell'. -/
structure Cell where
  row : List UInt8
  currency : List UInt8
  amount : Int
  deriving DecidableEq
abbrev Cell.cells (x : Cell) : List V := [.s x.row, .s x.currency, .i .i64 x.amount]
abbrev Cell.v (x : Cell) : V := .a ([.s x.row, .s x.currency, .i .i64 x.amount])
@[simp] theorem Cell.all_len (l : List Cell) : (encL Cell.v l).all (fun x => x.cells.length == 3) = true := encL_all fun _ => rfl
@[simp] theorem Cell.len_all (l : List Cell) : (∀ x ∈ encL Cell.v l, x.cells.length = 3) = True := encL_len fun _ => rfl
abbrev encX (l : List Cell) : List V := encL Cell.v l
theorem l16 (l : List Cell) (h : l.length ≤ 1000000) : loopK (O X) [0, 1, 5] body16_1 [(0, .l (encX l)), (1, .l (encX l)), (5, .i .i64 0)] = some (.e 0, []) := by
  have := loopK_run (o := O X) (kin := [0, 1, 5]) (c := body16_1) (fun i => [(0, .l (encX l)), (1, .l (encX l)), (5, .i .i64 i)]) l.length (.e 0, []) (by simp) (fun i hi => by
    have hw := wrap_i64 (i + 1) (by omega)
    simp [body16_1, hi, hw]) (by simp [body16_1]) (by simp)
  exact this
theorem e16 (l : List Cell) (h : l.length ≤ 1000000) : O X 16 [.l (encX l), .l (encX l)] = some (.b true) := by
  refine orun (fc := code16) rfl rfl rfl ?_
  have hl := l16 (X := X) l h
  simp [code16, exec_loopK, hl]
end Go.Proofs.Ytmhbkofbbkogeaa
