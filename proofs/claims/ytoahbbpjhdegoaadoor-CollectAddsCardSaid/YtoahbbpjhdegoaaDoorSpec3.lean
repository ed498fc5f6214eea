/-
  What the functions that the laws reach compute: indices, what is due, what is presented, settled and returned.
-/
import Derived.Test.YtoahbbpjhdegoaaDoorSpec2
namespace Go.Proofs.YtoahbbpjhdegoaaDoor
open Go.VM
/-! ### Indices -/
def placeAt (l : List Debit) (id : Int) (i : Nat) : Option Nat := match l[i]? with
  | some m => if m.id = id then some i else none
  | none => none
/-- The first direct debit with this Id. -/
def pos (l : List Debit) (id : Int) : Option Nat := (List.range l.length).findSome? (placeAt l id)
theorem pos_some {l : List Debit} {id : Int} {i : Nat} (h : pos l id = some i) : ∃ hi : i < l.length, l[i].id = id := by
  unfold pos at h
  obtain ⟨k, hk, hp⟩ := List.exists_of_findSome?_eq_some h
  have hk' : k < l.length := List.mem_range.1 hk
  simp [placeAt, hk'] at hp
  obtain ⟨h1, rfl⟩ := hp
  exact ⟨hk', h1⟩
def posV : Option Nat → V
  | some i => .i .i64 i
  | none => .i .i64 (-1)
theorem l43 (l : List Debit) (id : Int) (h : l.length ≤ 1000) : loopK O [0, 1, 5] body43_1 [(0, .l (enc l)), (1, .i .i64 id), (5, .i .i64 0)] = some (optE (fun (i : Nat) => (.r, [(4, .i .i64 i)])) (.e 0, []) (pos l id)) := by
  have := loopK_code (o := O) (kin := [0, 1, 5]) (c := body43_1) (fun i => [(0, .l (enc l)), (1, .i .i64 id), (5, .i .i64 i)]) l.length (placeAt l id) (fun (i : Nat) => (.r, [(4, .i .i64 i)])) (.e 0, []) (by simp) (by simp) (fun i hi => by
    have hw := wrap_i64 (i + 1) (by omega)
    simp [body43_1, hi, hw, placeAt]) (by simp [body43_1]) (by simp)
  exact this
theorem e43 (l : List Debit) (id : Int) (h : l.length ≤ 1000) : O 43 [.l (enc l), .i .i64 id] = some (posV (pos l id)) := by
  refine orun (fc := code43) rfl rfl rfl ?_
  have hl := l43 l id h
  cases hp : pos l id <;> rw [hp] at hl <;> simp [code43, exec_loopK, hl, posV]
@[simp] theorem e51 (x : Debit) (id : Int) : O 51 [x.v, .r [.i .i64 id]] = some (.b (decide (x.id = id))) := by
  refine orun (fc := code51) rfl rfl rfl ?_; simp [code51]
@[simp] theorem e36 (x d : Debit) : O 36 [x.v, .r d.cells] = some (.b (decide (d.id ≤ x.id))) := by
  refine orun (fc := code36) rfl rfl rfl ?_; simp [code36]
@[simp] theorem e37 (x d : Debit) : O 37 [x.v, .r d.cells] = some (.b (decide (x.key = d.key))) := by
  refine orun (fc := code37) rfl rfl rfl ?_; simp [code37]
theorem l46a (l : List Debit) (id : Int) (h : l.length ≤ 1000) : loopK O [0, 1, 7, 8] body46_1 [(0, .l (enc l)), (1, .f (.func 51) [] [.r [.i .i64 id]]), (7, .i .i64 l.length), (8, .i .i64 0)] = some (optE (fun (i : Nat) => (.r, [(4, .i .i64 i)])) (.e 0, []) (pos l id)) := by
  have := loopK_code (o := O) (kin := [0, 1, 7, 8]) (c := body46_1) (fun i => [(0, .l (enc l)), (1, .f (.func 51) [] [.r [.i .i64 id]]), (7, .i .i64 l.length), (8, .i .i64 i)]) l.length (placeAt l id) (fun (i : Nat) => (.r, [(4, .i .i64 i)])) (.e 0, []) (by simp) (by simp) (fun i hi => by
    have hw := wrap_i64 (i + 1) (by omega)
    simp [body46_1, hi, hw, placeAt]) (by simp [body46_1]) (by simp)
  exact this
theorem e46a (l : List Debit) (id : Int) (h : l.length ≤ 1000) : O 46 [.l (enc l), .f (.func 51) [] [.r [.i .i64 id]]] = some (posV (pos l id)) := by
  refine orun (fc := code46) rfl rfl rfl ?_
  have hl := l46a l id h
  cases hp : pos l id <;> rw [hp] at hl <;> simp [code46, exec_loopK, hl, posV]
theorem e42 (l : List Debit) (id : Int) (h : l.length ≤ 1000) : O 42 [.l (enc l), .i .i64 id] = some (posV (pos l id)) := by
  refine orun (fc := code42) rfl rfl rfl ?_
  have h46 := e46a l id h
  cases hp : pos l id <;> rw [hp] at h46 <;> simp [posV] at h46 <;> simp [code42, h46, posV]
/-- The first that is not below an Id. -/
def aboveAt (l : List Debit) (d : Debit) (i : Nat) : Option Nat := match l[i]? with
  | some x => if d.id ≤ x.id then some i else none
  | none => none
def above (l : List Debit) (d : Debit) : Option Nat := (List.range l.length).findSome? (aboveAt l d)
theorem l46b (l : List Debit) (d : Debit) (h : l.length ≤ 1000) : loopK O [0, 1, 7, 8] body46_1 [(0, .l (enc l)), (1, .f (.func 36) [] [.r d.cells]), (7, .i .i64 l.length), (8, .i .i64 0)] = some (optE (fun (i : Nat) => (.r, [(4, .i .i64 i)])) (.e 0, []) (above l d)) := by
  have := loopK_code (o := O) (kin := [0, 1, 7, 8]) (c := body46_1) (fun i => [(0, .l (enc l)), (1, .f (.func 36) [] [.r d.cells]), (7, .i .i64 l.length), (8, .i .i64 i)]) l.length (aboveAt l d) (fun (i : Nat) => (.r, [(4, .i .i64 i)])) (.e 0, []) (by simp) (by simp) (fun i hi => by
    have hw := wrap_i64 (i + 1) (by omega)
    by_cases c : d.id ≤ l[i].id <;> simp [body46_1, hi, hw, aboveAt, c]) (by simp [body46_1]) (by simp)
  exact this
theorem e46b (l : List Debit) (d : Debit) (h : l.length ≤ 1000) : O 46 [.l (enc l), .f (.func 36) [] [.r d.cells]] = some (posV (above l d)) := by
  refine orun (fc := code46) rfl rfl rfl ?_
  have hl := l46b l d h
  cases hp : above l d <;> rw [hp] at hl <;> simp [code46, exec_loopK, hl, posV]
def sameKeyAt (l : List Debit) (d : Debit) (i : Nat) : Option Nat := match l[i]? with
  | some x => if x.key = d.key then some i else none
  | none => none
def sameKey (l : List Debit) (d : Debit) : Option Nat := (List.range l.length).findSome? (sameKeyAt l d)
theorem l46c (l : List Debit) (d : Debit) (h : l.length ≤ 1000) : loopK O [0, 1, 7, 8] body46_1 [(0, .l (enc l)), (1, .f (.func 37) [] [.r d.cells]), (7, .i .i64 l.length), (8, .i .i64 0)] = some (optE (fun (i : Nat) => (.r, [(4, .i .i64 i)])) (.e 0, []) (sameKey l d)) := by
  have := loopK_code (o := O) (kin := [0, 1, 7, 8]) (c := body46_1) (fun i => [(0, .l (enc l)), (1, .f (.func 37) [] [.r d.cells]), (7, .i .i64 l.length), (8, .i .i64 i)]) l.length (sameKeyAt l d) (fun (i : Nat) => (.r, [(4, .i .i64 i)])) (.e 0, []) (by simp) (by simp) (fun i hi => by
    have hw := wrap_i64 (i + 1) (by omega)
    by_cases c : l[i].key = d.key
    · have h37 := e37 l[i] d
      rw [decide_eq_true c] at h37
      simp only [Debit.v, c] at h37
      simp [body46_1, hi, sameKeyAt, c, h37]
    · simp [body46_1, hi, hw, sameKeyAt, c]) (by simp [body46_1]) (by simp)
  exact this
theorem e46c (l : List Debit) (d : Debit) (h : l.length ≤ 1000) : O 46 [.l (enc l), .f (.func 37) [] [.r d.cells]] = some (posV (sameKey l d)) := by
  refine orun (fc := code46) rfl rfl rfl ?_
  have hl := l46c l d h
  cases hp : sameKey l d <;> rw [hp] at hl <;> simp [code46, exec_loopK, hl, posV]
theorem e35b (l : List Debit) (d : Debit) (h : l.length ≤ 1000) : O 35 [.l (enc l), .f (.func 36) [] [.r d.cells]] = some (.b (above l d).isSome) := by
  refine orun (fc := code35) rfl rfl rfl ?_
  have h46 := e46b l d h
  cases hp : above l d <;> rw [hp] at h46 <;> simp [posV] at h46 <;> simp [code35, h46]
theorem e35c (l : List Debit) (d : Debit) (h : l.length ≤ 1000) : O 35 [.l (enc l), .f (.func 37) [] [.r d.cells]] = some (.b (sameKey l d).isSome) := by
  refine orun (fc := code35) rfl rfl rfl ?_
  have h46 := e46c l d h
  cases hp : sameKey l d <;> rw [hp] at h46 <;> simp [posV] at h46 <;> simp [code35, h46]
theorem sameKey_iff (l : List Debit) (d : Debit) : (sameKey l d).isSome = decide (d.key ∈ keys l) := by
  rw [← known_iff]
  unfold sameKey
  rw [Bool.eq_iff_iff, Option.isSome_iff_exists, Option.isSome_iff_exists]
  constructor
  · rintro ⟨j, h⟩
    obtain ⟨i, hi, h⟩ := List.exists_of_findSome?_eq_some h
    cases hq : (List.range l.length).findSome? (knownAt l d.key) with
    | some u => exact ⟨u, rfl⟩
    | none =>
      have hi' := List.mem_range.1 hi
      have := range_find_none.1 hq i hi'
      simp [knownAt, hi'] at this
      simp [sameKeyAt, hi', this] at h
  · rintro ⟨j, h⟩
    obtain ⟨i, hi, h⟩ := List.exists_of_findSome?_eq_some h
    cases hq : (List.range l.length).findSome? (sameKeyAt l d) with
    | some u => exact ⟨u, rfl⟩
    | none =>
      have hi' := List.mem_range.1 hi
      have := range_find_none.1 hq i hi'
      simp [sameKeyAt, hi'] at this
      simp [knownAt, hi', this] at h
/-! ### Due -/
def isDue (d : Int) (x : Debit) : Bool := decide (x.state = 1) && decide (x.day ≤ d)
def due (l : List Debit) (d : Int) : List Debit := l.filter (isDue d)
theorem due_take (l : List Debit) (d : Int) {i : Nat} (h : i < l.length) : due (l.take (i + 1)) d = if isDue d l[i] = true then due (l.take i) d ++ [l[i]] else due (l.take i) d := by
  unfold due
  rw [List.take_succ_eq_append_getElem h, List.filter_append]
  cases hq : isDue d l[i] <;> simp [hq]
theorem due_len (l : List Debit) (d : Int) : (due l d).length ≤ l.length := List.length_filter_le _ _
set_option maxHeartbeats 4000000 in
theorem l14 (l : List Debit) (d : Int) (h : l.length ≤ 1000) : loopK O [1, 5, 8, 9, 10] body14_1 [(1, .i .i64 d), (5, .ow 32 []), (8, .l (enc l)), (9, .i .i64 l.length), (10, .i .i64 0)] = some (.e 0, [(5, .ow 32 (enc (due l d)))]) := by
  have := loopK_run (o := O) (kin := [1, 5, 8, 9, 10]) (c := body14_1) (fun i => [(1, .i .i64 d), (5, .ow 32 (enc (due (l.take i) d))), (8, .l (enc l)), (9, .i .i64 l.length), (10, .i .i64 i)]) l.length (.e 0, [(5, .ow 32 (enc (due l d)))]) (by simp) (fun i hi => by
    have hw := wrap_i64 (i + 1) (by omega)
    have ht := due_take l d hi
    have hlen : ((due (l.take i) d).length + 1) * 80 ≤ 140737488355328 := by
      have := due_len (l.take i) d
      have h2 : (l.take i).length ≤ i := by simp; omega
      omega
    by_cases c1 : l[i].state = 1
    · by_cases c2 : l[i].day ≤ d
      · rw [if_pos (by simp [isDue, c1, c2])] at ht
        simp [body14_1, hi, hw, ht, c1, c2, hlen]
        simp [enc, encL, c1]
      · rw [if_neg (by simp [isDue, c2])] at ht
        simp [body14_1, hi, hw, ht, c1, c2]
    · rw [if_neg (by simp [isDue, c1])] at ht
      simp [body14_1, hi, hw, ht, c1]) (by simp [body14_1]) (by simp)
  exact this
theorem e14 (l : List Debit) (d : Int) (h : l.length ≤ 1000) : O 14 [.l (enc l), .i .i64 d] = some (.ow 32 (enc (due l d))) := by
  refine orun (fc := code14) rfl rfl rfl ?_
  have hl := l14 l d h
  simp [code14, exec_loopK, hl]
set_option maxHeartbeats 4000000 in
theorem l15 (l : List Debit) (d : Int) (h : l.length ≤ 1000) : loopK O [0, 1, 5, 6] body15_1 [(0, .l (enc l)), (1, .i .i64 d), (5, .ow 32 []), (6, .i .i64 0)] = some (.e 0, [(5, .ow 32 (enc (due l d)))]) := by
  have := loopK_run (o := O) (kin := [0, 1, 5, 6]) (c := body15_1) (fun i => [(0, .l (enc l)), (1, .i .i64 d), (5, .ow 32 (enc (due (l.take i) d))), (6, .i .i64 i)]) l.length (.e 0, [(5, .ow 32 (enc (due l d)))]) (by simp) (fun i hi => by
    have hw := wrap_i64 (i + 1) (by omega)
    have ht := due_take l d hi
    have hlen : ((due (l.take i) d).length + 1) * 80 ≤ 140737488355328 := by
      have := due_len (l.take i) d
      have h2 : (l.take i).length ≤ i := by simp; omega
      omega
    by_cases c1 : l[i].state = 1
    · by_cases c2 : l[i].day ≤ d
      · rw [if_pos (by simp [isDue, c1, c2])] at ht
        simp [body15_1, hi, hw, ht, c1, c2, hlen]
        simp [enc, encL, c1]
      · rw [if_neg (by simp [isDue, c2])] at ht
        simp [body15_1, hi, hw, ht, c1, c2]
    · rw [if_neg (by simp [isDue, c1])] at ht
      simp [body15_1, hi, hw, ht, c1]) (by simp [body15_1]) (by simp)
  exact this
theorem e15 (l : List Debit) (d : Int) (h : l.length ≤ 1000) : O 15 [.l (enc l), .i .i64 d] = some (.ow 32 (enc (due l d))) := by
  refine orun (fc := code15) rfl rfl rfl ?_
  have hl := l15 l d h
  simp [code15, exec_loopK, hl]
end Go.Proofs.YtoahbbpjhdegoaaDoor
