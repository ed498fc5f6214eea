/-
  What the functions that the laws reach compute: the amounts of entries, sums, currencies, lists that are the same.
-/
import Derived.Test.YtdlpbedneamebaaGreatDoorSpec
namespace Go.Proofs.YtdlpbedneamebaaGreatDoor
open Go.VM
variable {X : Orc}
abbrev w (n : Int) : Int := IntKind.i64.wrap n
/-! ### Maps from texts to numbers -/
abbrev Am := List (List UInt8 × Int)
def kA (m : Am) : List V := m.map fun p => .s p.1
def vA (m : Am) : List V := m.map fun p => .i .i64 p.2
def setA (c : List UInt8) (n : Int) : Am → Am
  | [] => [(c, n)]
  | p :: r => if c = p.1 then (p.1, n) :: r else p :: setA c n r
def getO (c : List UInt8) : Am → Option Int
  | [] => none
  | p :: r => if c = p.1 then some p.2 else getO c r
def getA (c : List UInt8) (m : Am) : Int := (getO c m).getD 0
theorem kA_set (c : List UInt8) (n : Int) : ∀ m : Am, mkeys (.s c) (kA m) = kA (setA c n m)
  | [] => rfl
  | p :: r => by
    have ih := kA_set c n r
    simp only [kA, List.map_cons, mkeys, keyEq, decide_eq_true_eq, setA] at ih ⊢
    by_cases h : c = p.1
    · rw [if_pos h, if_pos h]; rfl
    · rw [if_neg h, if_neg h, ih]; rfl
theorem vA_set (c : List UInt8) (n : Int) : ∀ m : Am, mvals (.s c) (.i .i64 n) (kA m) (vA m) = vA (setA c n m)
  | [] => rfl
  | p :: r => by
    have ih := vA_set c n r
    simp only [kA, vA, List.map_cons, mvals, keyEq, decide_eq_true_eq, setA] at ih ⊢
    by_cases h : c = p.1
    · rw [if_pos h, if_pos h]; rfl
    · rw [if_neg h, if_neg h, ih]; rfl
theorem find_A (c : List UInt8) : ∀ m : Am, mfind (.s c) (kA m) (vA m) = (getO c m).map (V.i .i64)
  | [] => rfl
  | p :: r => by
    have ih := find_A c r
    simp only [kA, vA, List.map_cons, mfind, keyEq, decide_eq_true_eq, getO] at ih ⊢
    by_cases h : c = p.1
    · rw [if_pos h, if_pos h]; rfl
    · rw [if_neg h, if_neg h, ih]
theorem get_A (c : List UInt8) (m : Am) : (mfind (.s c) (kA m) (vA m)).getD (.i .i64 0) = .i .i64 (getA c m) := by
  rw [find_A, getA]; cases getO c m <;> rfl
theorem kA_all (m : Am) : (kA m).all (keyB 1) = true := by
  rw [List.all_eq_true]; intro x hx; obtain ⟨y, _, rfl⟩ := List.mem_map.1 hx; rfl
theorem getO_set (c d : List UInt8) (n : Int) : ∀ m : Am, getO d (setA c n m) = if d = c then some n else getO d m
  | [] => by simp [setA, getO]
  | p :: r => by
    have ih := getO_set c d n r
    simp only [setA]
    by_cases h : c = p.1
    · rw [if_pos h]
      simp only [getO]
      by_cases h2 : d = p.1
      · rw [if_pos h2, if_pos (h2.trans h.symm)]
      · rw [if_neg h2, if_neg fun e => h2 (e.trans h), if_neg h2]
    · rw [if_neg h]
      simp only [getO, ih]
      by_cases h2 : d = p.1
      · rw [if_pos h2, if_neg fun e => h (e.symm.trans h2), if_pos h2]
      · rw [if_neg h2, if_neg h2]
theorem getA_set (c d : List UInt8) (n : Int) (m : Am) : getA d (setA c n m) = if d = c then n else getA d m := by
  unfold getA; rw [getO_set]; split <;> rfl
@[simp] theorem resE_mp {env : Env} {K W : List V} (t : Nat) : resE env t (some (.mp K W)) = some (.mp K W, put t .ud env) := rfl
/-! ### Amounts -/
def legA (b : Books) (r : Row) (m : Am) (x : Leg) : Am := if belongsB b r x.account = true then setA x.currency (w (getA x.currency m + w (r.sign * x.amount))) m else m
def amountsA (b : Books) (r : Row) (e : Entry) : Am := e.legs.foldl (legA b r) []
def legN (b : Books) (r : Row) (c : List UInt8) (n : Int) (x : Leg) : Int := if x.currency = c ∧ belongsB b r x.account = true then w (n + x.amount) else n
def amountN (b : Books) (r : Row) (c : List UInt8) (e : Entry) : Int := w (r.sign * e.legs.foldl (legN b r c) 0)
theorem fold_take {α β : Type} (f : β → α → β) (z : β) (l : List α) {i : Nat} (hi : i < l.length) : (l.take (i + 1)).foldl f z = f ((l.take i).foldl f z) l[i] := by
  rw [List.take_succ_eq_append_getElem hi, List.foldl_append]; rfl
abbrev encL3 (l : List Leg) : List V := encL Leg.v l
set_option maxHeartbeats 4000000 in
theorem l19 (b : Books) (r : Row) (l : List Leg) (h : Fine b) (hr : r.roots.length ≤ 1000) (hl : l.length ≤ 1000) : loopK (O X) [3, 4, 7, 12, 13, 14] body19_1 [(3, .bx b.cells), (4, .bx r.cells), (7, .mp [] []), (12, .l (encL3 l)), (13, .i .i64 l.length), (14, .i .i64 0)] =
    some (.e 0, [(7, .mp (kA (l.foldl (legA b r) [])) (vA (l.foldl (legA b r) [])))]) := by
  have := loopK_run (o := O X) (kin := [3, 4, 7, 12, 13, 14]) (c := body19_1) (fun i => [(3, .bx b.cells), (4, .bx r.cells), (7, .mp (kA ((l.take i).foldl (legA b r) [])) (vA ((l.take i).foldl (legA b r) []))), (12, .l (encL3 l)), (13, .i .i64 l.length), (14, .i .i64 i)]) l.length (.e 0, [(7, .mp (kA (l.foldl (legA b r) [])) (vA (l.foldl (legA b r) [])))]) (by simp) (fun i hi => by
    have hw := wrap_i64 (i + 1) (by omega)
    have h1 := e50 (X := X) b r l[i].account h hr
    rw [fold_take _ _ _ hi]
    generalize (l.take i).foldl (legA b r) [] = m
    cases hc : belongsB b r l[i].account <;> rw [hc] at h1
    · have hL : legA b r m l[i] = m := by simp [legA, hc]
      rw [hL]
      generalize kA m = K
      generalize vA m = W
      simp [body19_1, hi, hw, h1]
    · have hL : legA b r m l[i] = setA l[i].currency (w (getA l[i].currency m + w (r.sign * l[i].amount))) m := by simp [legA, hc]
      rw [hL]
      have hk := kA_set l[i].currency (w (getA l[i].currency m + w (r.sign * l[i].amount))) m
      have hv := vA_set l[i].currency (w (getA l[i].currency m + w (r.sign * l[i].amount))) m
      have hg := get_A l[i].currency m
      have ha := kA_all m
      have h5 : keyB 1 (.s l[i].currency) = true := rfl
      generalize setA l[i].currency (w (getA l[i].currency m + w (r.sign * l[i].amount))) m = m' at hk hv ⊢
      generalize getA l[i].currency m = g at hk hv hg ⊢
      generalize kA m' = K' at hk ⊢
      generalize vA m' = W' at hv ⊢
      generalize kA m = K at hk hv hg ha ⊢
      generalize vA m = W at hv hg ⊢
      simp only [w] at hk hv
      have ha' : (∀ x, x ∈ K → keyB 1 x = true) = True := eq_true fun x hx => List.all_eq_true.1 ha x hx
      simp [body19_1, hi, hw, h1, hk, hv, hg, h5, ha']) (by simp [body19_1]) (by simp)
  simpa [kA, vA] using this
theorem e19 (b : Books) (r : Row) (e : Entry) (h : Fine b) (hr : r.roots.length ≤ 1000) (hl : e.legs.length ≤ 1000) : O X 19 [b.v, r.v, e.v] = some (.mp (kA (amountsA b r e)) (vA (amountsA b r e))) := by
  refine orun (fc := code19) rfl rfl rfl ?_
  have h1 := l19 (X := X) b r e.legs h hr hl
  unfold amountsA
  generalize e.legs.foldl (legA b r) [] = m at h1 ⊢
  generalize kA m = K at h1 ⊢
  generalize vA m = W at h1 ⊢
  simp [code19, exec_loopK, h1]
set_option maxHeartbeats 4000000 in
theorem am_step {s n x g : Int} (hs : s = 1 ∨ s = -1) (hg : g = w (s * n)) : w (g + w (s * x)) = w (s * w (n + x)) := by
  subst hg
  rcases hs with rfl | rfl <;> simp only [w, IntKind.wrap_i64] <;> omega
theorem am_eq (b : Books) (r : Row) (c : List UInt8) (e : Entry) (hs : r.sign = 1 ∨ r.sign = -1) : getA c (amountsA b r e) = amountN b r c e := by
  have key : ∀ (l : List Leg) (m : Am) (n : Int), getA c m = w (r.sign * n) → getA c (l.foldl (legA b r) m) = w (r.sign * l.foldl (legN b r c) n) := by
    intro l
    induction l with
    | nil => intro m n h; exact h
    | cons x l ih =>
      intro m n h
      rw [List.foldl_cons, List.foldl_cons]
      refine ih _ _ ?_
      unfold legA legN
      cases hb : belongsB b r x.account with
      | false => simpa using h
      | true =>
        by_cases hc : x.currency = c
        · subst hc
          simp only [if_true, and_self, getA_set]
          rw [h]
          exact am_step hs rfl
        · have hc' : ¬ c = x.currency := fun e => hc e.symm
          simp only [if_true, and_true, if_neg hc, getA_set, if_neg hc']
          exact h
  exact key e.legs [] 0 (by simp [getA, getO, w, IntKind.wrap_i64])
/-! ### Sums -/
def jN (b : Books) (r : Row) (c : List UInt8) (bk : Int) (n : Int) (e : Entry) : Int := if bk < e.booked then n else w (n + amountN b r c e)
def sumN (b : Books) (r : Row) (c : List UInt8) (bk : Int) : Int := b.journal.foldl (jN b r c bk) 0
theorem w_rng (n : Int) : -9223372036854775808 ≤ w n ∧ w n ≤ 9223372036854775807 := by simp only [w, IntKind.wrap_i64]; omega
def cellE (n : Int) : Int := if n < -1000000000000 ∨ 1000000000000 < n then 6 else 0
set_option maxHeartbeats 4000000 in
theorem e20 (n : Int) : O X 20 [.i .i64 n] = some (.b (decide (cellE n = 0))) := by
  refine orun (fc := code20) rfl rfl rfl ?_
  unfold cellE
  by_cases c1 : n < -1000000000000
  · have c1' : ¬ (-1000000000000 ≤ n) := by omega
    simp [code20, c1, c1']
  · have c1' : -1000000000000 ≤ n := by omega
    by_cases c2 : 1000000000000 < n
    · have c2' : ¬ n ≤ 1000000000000 := by omega
      simp [code20, c1', c2, c2']
    · have c2' : n ≤ 1000000000000 := by omega
      simp [code20, c1, c1', c2, c2']
/-! ### Currencies -/
def cAt (l : List Currency) (c : List UInt8) (i : Nat) : Option Currency := match l[i]? with
  | some x => if x.code = c then some x else none
  | none => none
def findC (l : List Currency) (c : List UInt8) : Option Currency := (List.range l.length).findSome? (cAt l c)
def c0 : Currency := ⟨[], 0⟩
def cV : Option Currency → V
  | some g => .t [g.v, .b true]
  | none => .t [c0.v, .b false]
theorem l21 (l : List Currency) (c : List UInt8) (h : l.length ≤ 1000) : loopK (O X) [1, 4, 8, 9, 10] body21_1 [(1, .s c), (4, .bx c0.cells), (8, .l (encC l)), (9, .i .i64 l.length), (10, .i .i64 0)] = some (optE (fun g => (.r, [(4, .bx g.cells), (5, .b true)])) (.e 0, [(4, .bx c0.cells)]) (findC l c)) := by
  have := loopK_code (o := O X) (kin := [1, 4, 8, 9, 10]) (c := body21_1) (fun i => [(1, .s c), (4, .bx c0.cells), (8, .l (encC l)), (9, .i .i64 l.length), (10, .i .i64 i)]) l.length (cAt l c) (fun g => (.r, [(4, .bx g.cells), (5, .b true)])) (.e 0, [(4, .bx c0.cells)]) (by simp) (by simp) (fun i hi => by
    have hw := wrap_i64 (i + 1) (by omega)
    by_cases hc : l[i].code = c <;> simp [body21_1, hi, hw, cAt, hc]) (by simp [body21_1]) (by simp)
  exact this
theorem e21 (l : List Currency) (c : List UInt8) (h : l.length ≤ 1000) : O X 21 [.l (encC l), .s c] = some (cV (findC l c)) := by
  refine orun (fc := code21) rfl rfl rfl ?_
  have hl := l21 (X := X) l c h
  cases hq : findC l c <;> rw [hq] at hl <;> simp [c0] at hl <;> simp [code21, exec_loopK, hl, cV, c0]
theorem l129 (l : List Currency) (c : List UInt8) (h : l.length ≤ 1000) : loopK (O X) [0, 1, 4, 6] body129_1 [(0, .l (encC l)), (1, .s c), (4, .bx c0.cells), (6, .i .i64 0)] = some (optE (fun g => (.r, [(4, .bx g.cells), (5, .b true)])) (.e 0, [(4, .bx c0.cells)]) (findC l c)) := by
  have := loopK_code (o := O X) (kin := [0, 1, 4, 6]) (c := body129_1) (fun i => [(0, .l (encC l)), (1, .s c), (4, .bx c0.cells), (6, .i .i64 i)]) l.length (cAt l c) (fun g => (.r, [(4, .bx g.cells), (5, .b true)])) (.e 0, [(4, .bx c0.cells)]) (by simp) (by simp) (fun i hi => by
    have hw := wrap_i64 (i + 1) (by omega)
    by_cases hc : l[i].code = c <;> simp [body129_1, hi, hw, cAt, hc]) (by simp [body129_1]) (by simp)
  exact this
theorem e129 (l : List Currency) (c : List UInt8) (h : l.length ≤ 1000) : O X 129 [.l (encC l), .s c] = some (cV (findC l c)) := by
  refine orun (fc := code129) rfl rfl rfl ?_
  have hl := l129 (X := X) l c h
  cases hq : findC l c <;> rw [hq] at hl <;> simp [c0] at hl <;> simp [code129, exec_loopK, hl, cV, c0]
/-! ### The same lists -/
theorem l46 (l : List Int) (h : l.length ≤ 1000000) : loopK (O X) [0, 1, 5] body46_1 [(0, .l (ints l)), (1, .l (ints l)), (5, .i .i64 0)] = some (.e 0, []) := by
  have := loopK_run (o := O X) (kin := [0, 1, 5]) (c := body46_1) (fun i => [(0, .l (ints l)), (1, .l (ints l)), (5, .i .i64 i)]) l.length (.e 0, []) (by simp) (fun i hi => by
    have hw := wrap_i64 (i + 1) (by omega)
    simp [body46_1, hi, hw]) (by simp [body46_1]) (by simp)
  exact this
theorem e46 (l : List Int) (h : l.length ≤ 1000000) : O X 46 [.l (ints l), .l (ints l)] = some (.b true) := by
  refine orun (fc := code46) rfl rfl rfl ?_
  have hl := l46 (X := X) l h
  simp [code46, exec_loopK, hl]
structure Cell where
  row : List UInt8
  currency : List UInt8
  amount : Int
  deriving DecidableEq
abbrev Cell.cells (x : Cell) : List V := [.s x.row, .s x.currency, .i .i64 x.amount]
abbrev Cell.v (x : Cell) : V := .a ([.s x.row, .s x.currency, .i .i64 x.amount])
@[simp] theorem Cell.all_len (l : List Cell) : (encL Cell.v l).all (fun x => x.cells.length == 3) = true := encL_all fun _ => rfl
@[simp] theorem Cell.len_all (l : List Cell) : (∀ x ∈ encL Cell.v l, x.cells.length = 3) = True := encL_len fun _ => rfl
abbrev encX (l : List Cell) : List V := encL Cell.v l
theorem l45 (l : List Cell) (h : l.length ≤ 1000000) : loopK (O X) [0, 1, 5] body45_1 [(0, .l (encX l)), (1, .l (encX l)), (5, .i .i64 0)] = some (.e 0, []) := by
  have := loopK_run (o := O X) (kin := [0, 1, 5]) (c := body45_1) (fun i => [(0, .l (encX l)), (1, .l (encX l)), (5, .i .i64 i)]) l.length (.e 0, []) (by simp) (fun i hi => by
    have hw := wrap_i64 (i + 1) (by omega)
    simp [body45_1, hi, hw]) (by simp [body45_1]) (by simp)
  exact this
theorem e45 (l : List Cell) (h : l.length ≤ 1000000) : O X 45 [.l (encX l), .l (encX l)] = some (.b true) := by
  refine orun (fc := code45) rfl rfl rfl ?_
  have hl := l45 (X := X) l h
  simp [code45, exec_loopK, hl]
end Go.Proofs.YtdlpbedneamebaaGreatDoor
namespace Go.Proofs.YtdlpbedneamebaaGreatDoor
open Go.VM
variable {X : Orc}
theorem chk_sign {b : Books} {l : List Row} (h : chk b l = 0) : ∀ r ∈ l, r.sign = 1 ∨ r.sign = -1 := by
  intro r hr
  obtain ⟨i, hi, rfl⟩ := List.getElem_of_mem hr
  unfold chk at h
  split at h
  · cases h
  · cases hq : (List.range l.length).findSome? (rowAt b l) with
    | some e =>
      rw [hq] at h
      obtain ⟨k, hk, hp⟩ := List.exists_of_findSome?_eq_some hq
      simp only [Option.getD_some] at h
      subst h
      have hk' : k < l.length := List.mem_range.1 hk
      simp only [rowAt, List.getElem?_eq_getElem hk'] at hp
      split at hp
      · cases hp
      · split at hp
        · cases hp
        · split at hp
          · rename_i h0
            simp only [Option.some.injEq] at hp
            exact absurd hp h0
          · cases hp
    | none =>
      have := range_find_none.1 hq i hi
      simp only [rowAt, List.getElem?_eq_getElem hi] at this
      split at this
      · cases this
      · split at this
        · cases this
        · rename_i h1
          by_cases h2 : l[i].sign = 1
          · exact .inl h2
          · by_cases h3 : l[i].sign = -1
            · exact .inr h3
            · exact absurd ⟨h2, h3⟩ h1
theorem chk_rows {b : Books} {l : List Row} (h : chk b l = 0) : 1 ≤ l.length ∧ l.length ≤ 64 := by
  unfold chk at h
  split at h
  · cases h
  · omega
theorem chk_one {b : Books} {l : List Row} (h : chk b l = 0) {r : Row} (hr : r ∈ l) : chk b [r] = 0 := by
  obtain ⟨i, hi, rfl⟩ := List.getElem_of_mem hr
  have hn : rowAt b l i = none := by
    unfold chk at h
    split at h
    · cases h
    · cases hq : (List.range l.length).findSome? (rowAt b l) with
      | none => exact range_find_none.1 hq i hi
      | some e =>
        rw [hq] at h
        obtain ⟨k, hk, hp⟩ := List.exists_of_findSome?_eq_some hq
        simp only [Option.getD_some] at h
        subst h
        have hk' : k < l.length := List.mem_range.1 hk
        simp only [rowAt, List.getElem?_eq_getElem hk'] at hp
        split at hp
        · cases hp
        · split at hp
          · cases hp
          · split at hp
            · rename_i h0
              simp only [Option.some.injEq] at hp
              exact absurd hp h0
            · cases hp
  have hn' : rowAt b [l[i]] 0 = none := by
    simp only [rowAt, List.getElem?_eq_getElem hi] at hn
    simpa [rowAt] using hn
  unfold chk
  rw [if_neg (by simp)]
  simp [List.range_succ, hn']
/-! ### Drilling down -/
def dS (b : Books) (r : Row) (c : List UInt8) (bk : Int) (acc : List Int) (e : Entry) : List Int := if e.booked ≤ bk ∧ amountN b r c e ≠ 0 then acc ++ [e.id] else acc
def drill (b : Books) (r : Row) (c : List UInt8) (bk : Int) : List Int := b.journal.foldl (dS b r c bk) []
theorem dS_len (b : Books) (r : Row) (c : List UInt8) (bk : Int) (l : List Entry) : (l.foldl (dS b r c bk) []).length ≤ l.length := by
  have key : ∀ (l : List Entry) (acc : List Int), (l.foldl (dS b r c bk) acc).length ≤ acc.length + l.length := by
    intro l
    induction l with
    | nil => intro acc; simp
    | cons e l ih =>
      intro acc
      rw [List.foldl_cons]
      have := ih (dS b r c bk acc e)
      have h2 : (dS b r c bk acc e).length ≤ acc.length + 1 := by unfold dS; split <;> simp
      simp only [List.length_cons]
      omega
  simpa using key l []
theorem l8 (b : Books) (r : Row) (c : List UInt8) (bk : Int) (h : Fine b) (hr : r.roots.length ≤ 1000) (hs : r.sign = 1 ∨ r.sign = -1) : loopK (O X) [2, 3, 4, 5, 13, 33, 34, 35] body8_1 [(2, .s c), (3, .i .i64 bk), (4, .bx b.cells), (5, .bx r.cells), (13, .ow 3 []), (33, .l (encE b.journal)), (34, .i .i64 b.journal.length), (35, .i .i64 0)] =
    some (.e 0, [(13, .ow 3 (ints (drill b r c bk)))]) := by
  have := loopK_run (o := O X) (kin := [2, 3, 4, 5, 13, 33, 34, 35]) (c := body8_1) (fun i => [(2, .s c), (3, .i .i64 bk), (4, .bx b.cells), (5, .bx r.cells), (13, .ow 3 (ints ((b.journal.take i).foldl (dS b r c bk) []))), (33, .l (encE b.journal)), (34, .i .i64 b.journal.length), (35, .i .i64 i)]) b.journal.length (.e 0, [(13, .ow 3 (ints (drill b r c bk)))]) (by simp) (fun i hi => by
    have hj := h.jour
    have hw := wrap_i64 (i + 1) (by omega)
    have h1 := e19 (X := X) b r b.journal[i] h hr (h.legs _ (List.getElem_mem hi))
    have hlen := dS_len b r c bk (b.journal.take i)
    rw [List.length_take] at hlen
    rw [fold_take _ _ _ hi]
    generalize (b.journal.take i).foldl (dS b r c bk) [] = acc at hlen
    have hap : (acc.length + 1) * 8 ≤ 140737488355328 := by omega
    have hsn := ints_snoc acc b.journal[i].id
    have hg := get_A c (amountsA b r b.journal[i])
    rw [am_eq b r c _ hs] at hg
    have ha := kA_all (amountsA b r b.journal[i])
    have h5 : keyB 1 (.s c) = true := rfl
    by_cases hb : b.journal[i].booked ≤ bk
    · by_cases h0 : amountN b r c b.journal[i] = 0
      · have hd : dS b r c bk acc b.journal[i] = acc := by simp [dS, h0]
        rw [hd]
        rw [h0] at hg
        generalize kA (amountsA b r b.journal[i]) = K at h1 hg ha
        generalize vA (amountsA b r b.journal[i]) = W at h1 hg
        have ha' : (∀ x, x ∈ K → keyB 1 x = true) = True := eq_true fun x hx => List.all_eq_true.1 ha x hx
        simp [body8_1, hi, hw, h1, hg, h5, ha', hb]
      · have hd : dS b r c bk acc b.journal[i] = acc ++ [b.journal[i].id] := by simp [dS, h0, hb]
        rw [hd, ← hsn]
        generalize amountN b r c b.journal[i] = a at hg h0
        generalize kA (amountsA b r b.journal[i]) = K at h1 hg ha
        generalize vA (amountsA b r b.journal[i]) = W at h1 hg
        have ha' : (∀ x, x ∈ K → keyB 1 x = true) = True := eq_true fun x hx => List.all_eq_true.1 ha x hx
        simp [body8_1, hi, hw, h1, hg, h5, ha', hb, h0, hap]
    · have hd : dS b r c bk acc b.journal[i] = acc := by simp [dS, hb]
      rw [hd]
      simp [body8_1, hi, hw, hb]) (by simp [body8_1, drill]) (by simp)
  simpa using this
def drillV (b : Books) (r : Row) (c : List UInt8) (bk : Int) : V :=
  if chk b [r] = 0 then (if (findC b.currencies c).isSome = true then .t [.ow 3 (ints (drill b r c bk)), .i .i64 0] else .t [.ow 3 [], .i .i64 14]) else .t [.ow 3 [], .i .i64 (chk b [r])]
theorem enc_one (r : Row) : encR [r] = [r.v] := rfl
theorem Rows.one {r : Row} (h1 : r.roots.length ≤ 1000) (h2 : r.name.length ≤ maxLen) : Rows [r] := ⟨by simpa using h1, by simpa using h2⟩
theorem e8 (b : Books) (r : Row) (c : List UInt8) (bk : Int) (h : Fine b) (hr : r.roots.length ≤ 1000) (hn : r.name.length ≤ maxLen) : O X 8 [b.v, r.v, .s c, .i .i64 bk] = some (drillV b r c bk) := by
  refine orun (fc := code8) rfl rfl rfl ?_
  have h9 := e18 (X := X) b [r] h.chart (Rows.one hr hn) (by show 1 ≤ maxLen; unfold maxLen; omega)
  rw [enc_one] at h9
  have h38 := e21 (X := X) b.currencies c h.curs
  unfold drillV
  by_cases h0 : chk b [r] = 0
  · rw [h0] at h9
    rw [if_pos h0]
    cases hc : findC b.currencies c with
    | none => rw [hc] at h38; simp [cV, c0] at h38; simp [code8, h9, h38]
    | some x =>
      rw [hc] at h38; simp [cV] at h38
      have hl := l8 (X := X) b r c bk h hr (chk_sign h0 r (List.mem_singleton.2 rfl))
      simp [code8, exec_loopK, h9, h38, hl]
  · rw [if_neg h0]
    generalize chk b [r] = e at h9 h0
    simp [code8, h9, h0]
/-! ### Amounts by Id -/
def byId (b : Books) (r : Row) (c : List UInt8) (id : Int) (i : Nat) : Option Int := match b.journal[i]? with
  | some e => if e.id = id then some (amountN b r c e) else none
  | none => none
def amtId (b : Books) (r : Row) (c : List UInt8) (id : Int) : Int := if chk b [r] = 0 then ((List.range b.journal.length).findSome? (byId b r c id)).getD 0 else 0
theorem l9 (b : Books) (r : Row) (c : List UInt8) (id : Int) (h : Fine b) (hr : r.roots.length ≤ 1000) (hs : r.sign = 1 ∨ r.sign = -1) : loopK (O X) [2, 3, 4, 5, 17, 18, 19] body9_1 [(2, .s c), (3, .i .i64 id), (4, .bx b.cells), (5, .bx r.cells), (17, .l (encE b.journal)), (18, .i .i64 b.journal.length), (19, .i .i64 0)] =
    some (optE (fun (n : Int) => (.r, [(8, .i .i64 n)])) (.e 0, []) ((List.range b.journal.length).findSome? (byId b r c id))) := by
  have := loopK_code (o := O X) (kin := [2, 3, 4, 5, 17, 18, 19]) (c := body9_1) (fun i => [(2, .s c), (3, .i .i64 id), (4, .bx b.cells), (5, .bx r.cells), (17, .l (encE b.journal)), (18, .i .i64 b.journal.length), (19, .i .i64 i)]) b.journal.length (byId b r c id) (fun (n : Int) => (.r, [(8, .i .i64 n)])) (.e 0, []) (by simp) (by simp) (fun i hi => by
    have hj := h.jour
    have hw := wrap_i64 (i + 1) (by omega)
    have h1 := e19 (X := X) b r b.journal[i] h hr (h.legs _ (List.getElem_mem hi))
    have hg := get_A c (amountsA b r b.journal[i])
    rw [am_eq b r c _ hs] at hg
    have ha := kA_all (amountsA b r b.journal[i])
    have h5 : keyB 1 (.s c) = true := rfl
    by_cases hb : b.journal[i].id = id
    · have hd : byId b r c id i = some (amountN b r c b.journal[i]) := by simp [byId, hi, hb]
      rw [hd]
      generalize amountN b r c b.journal[i] = a at hg
      generalize kA (amountsA b r b.journal[i]) = K at h1 hg ha
      generalize vA (amountsA b r b.journal[i]) = W at h1 hg
      have ha' : (∀ x, x ∈ K → keyB 1 x = true) = True := eq_true fun x hx => List.all_eq_true.1 ha x hx
      subst hb
      simp [body9_1, hi, h1, hg, h5, ha']
    · have hd : byId b r c id i = none := by simp [byId, hi, hb]
      rw [hd]
      simp [body9_1, hi, hw, hb]) (by simp [body9_1]) (by simp)
  exact this
theorem e9 (b : Books) (r : Row) (c : List UInt8) (id : Int) (h : Fine b) (hr : r.roots.length ≤ 1000) (hn : r.name.length ≤ maxLen) : O X 9 [b.v, r.v, .s c, .i .i64 id] = some (.i .i64 (amtId b r c id)) := by
  refine orun (fc := code9) rfl rfl rfl ?_
  have h9 := e18 (X := X) b [r] h.chart (Rows.one hr hn) (by show 1 ≤ maxLen; unfold maxLen; omega)
  rw [enc_one] at h9
  unfold amtId
  by_cases h0 : chk b [r] = 0
  · rw [h0] at h9
    rw [if_pos h0]
    have hl := l9 (X := X) b r c id h hr (chk_sign h0 r (List.mem_singleton.2 rfl))
    cases hq : (List.range b.journal.length).findSome? (byId b r c id) <;> rw [hq] at hl <;> simp at hl <;> simp [code9, exec_loopK, h9, hl]
  · rw [if_neg h0]
    generalize chk b [r] = e at h9 h0
    simp [code9, h9, h0]
end Go.Proofs.YtdlpbedneamebaaGreatDoor
namespace Go.Proofs.YtdlpbedneamebaaGreatDoor
open Go.VM
variable {X : Orc}
def gB : Option V → Bool
  | some (.b t) => t
  | _ => false
@[simp] theorem gB_b (t : Bool) : gB (some (.b t)) = t := rfl
/-! ### Expressions -/
theorem exT_le : ∀ {n m : Nat} {ys : List V}, n ≤ m → exT m ys → exT n ys
  | 0, _, _, _, _ => trivial
  | n + 1, 0, _, hm, _ => by omega
  | n + 1, m + 1, _, hm, ⟨op, k, s, args, h1, h2, h3⟩ => ⟨op, k, s, args, h1, h2, fun y hy => by
    obtain ⟨zs, h4, h5⟩ := h3 y hy
    exact ⟨zs, h4, exT_le (by omega) h5⟩⟩
/-! ### Products -/
def Fee.okX (f : Fee) : Prop := exT 102 f.when.cells ∧ exT 102 f.amount.cells
def Rule.okX (f : Rule) : Prop := exT 102 f.amount.cells
/-! ### Holds, entries -/
end Go.Proofs.YtdlpbedneamebaaGreatDoor
namespace Go.Proofs.YtdlpbedneamebaaGreatDoor
open Go.VM
variable {X : Orc}
/-! ### Rows -/
/-! ### Books -/
/-! ### Different Ids -/
end Go.Proofs.YtdlpbedneamebaaGreatDoor
