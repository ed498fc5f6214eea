/-
  What the functions that the laws reach compute: Settle, Return, others.
-/
import Derived.Test.YtoahbbpjhdegoaaDoorSpec4
namespace Go.Proofs.YtoahbbpjhdegoaaDoor
open Go.VM
def resV' (p : List Debit × Int) : V := .t [.ow 32 (enc p.1), .i .i64 p.2]
def settledD (x : Debit) (day e : Int) : Debit := if e = 0 then { x with state := 2, settled := day } else { x with state := 4, reason := reason e }
/-- Settle's answer. -/
def setP (l : List Debit) (id day e : Int) : List Debit × Int := match pos l id with
  | none => ([], 11)
  | some i => match l[i]? with
    | some x => if x.state ≠ 1 then ([], 17) else if validD day = false then ([], 1) else (l.set i (settledD x day e), 0)
    | none => ([], 11)
def returnedD (x : Debit) (r day : Int) : Debit := { x with state := 3, returned := day, reason := r }
/-- Return's answer. -/
def retP (l : List Debit) (id r day : Int) : List Debit × Int := match pos l id with
  | none => ([], 11)
  | some i => match l[i]? with
    | some x => if x.state ≠ 2 then ([], 17) else if ((r < 1 ∨ 4 < r) ∨ validD day = false) ∨ day < x.settled then ([], 1) else if x.settled < IntKind.i64.wrap (day - window r) then ([], 23) else (l.set i (returnedD x r day), 0)
    | none => ([], 11)
set_option maxHeartbeats 8000000 in
theorem e22 (l : List Debit) (id d e : Int) (h : l.length ≤ 1000) : O 22 [.l (enc l), .i .i64 id, .i .i64 d, .i .i64 e] = some (resV' (setP l id d e)) := by
  refine orun (fc := code22) rfl rfl rfl ?_
  have h42 := e42 l id h
  have h39 := e39 l h
  cases hp : pos l id with
  | none => rw [hp] at h42; simp [posV] at h42; simp [code22, h42, setP, hp, resV']
  | some i =>
    obtain ⟨hi, _⟩ := pos_some hp
    rw [hp] at h42; simp [posV] at h42
    by_cases c1 : l[i].state = 1
    · cases c2 : validD d with
      | false => simp [code22, h42, setP, hp, resV', hi, c1, c2]
      | true =>
        by_cases c3 : e = 0
        · simp [code22, h42, h39, setP, hp, resV', hi, c1, c2, c3, settledD, encL_set]
        · simp [code22, h42, h39, setP, hp, resV', hi, c1, c2, c3, settledD, encL_set]
    · simp [code22, h42, setP, hp, resV', hi, c1]
set_option maxHeartbeats 8000000 in
theorem e23 (l : List Debit) (id d e : Int) (h : l.length ≤ 1000) : O 23 [.l (enc l), .i .i64 id, .i .i64 d, .i .i64 e] = some (resV' (setP l id d e)) := by
  refine orun (fc := code23) rfl rfl rfl ?_
  have h43 := e43 l id h
  have hb0 : l.length * 80 ≤ 140737488355328 := by omega
  cases hp : pos l id with
  | none => rw [hp] at h43; simp [posV] at h43; simp [code23, h43, setP, hp, resV']
  | some i =>
    obtain ⟨hi, _⟩ := pos_some hp
    rw [hp] at h43; simp [posV] at h43
    by_cases c1 : l[i].state = 1
    · cases c2 : validD d with
      | false => simp [code23, h43, setP, hp, resV', hi, c1, c2]
      | true =>
        by_cases c3 : e = 0
        · simp [code23, h43, hb0, setP, hp, resV', hi, c1, c2, c3, settledD, encL_set]
        · simp [code23, h43, hb0, setP, hp, resV', hi, c1, c2, c3, settledD, encL_set]
    · simp [code23, h43, setP, hp, resV', hi, c1]
set_option maxHeartbeats 8000000 in
theorem e24 (l : List Debit) (id r d : Int) (h : l.length ≤ 1000) : O 24 [.l (enc l), .i .i64 id, .i .i64 r, .i .i64 d] = some (resV' (retP l id r d)) := by
  refine orun (fc := code24) rfl rfl rfl ?_
  have h42 := e42 l id h
  have h39 := e39 l h
  cases hp : pos l id with
  | none => rw [hp] at h42; simp [posV] at h42; simp [code24, h42, retP, hp, resV']
  | some i =>
    obtain ⟨hi, _⟩ := pos_some hp
    rw [hp] at h42; simp [posV] at h42
    by_cases c1 : l[i].state = 2
    · by_cases k1 : r < 1
      · simp [code24, h42, retP, hp, resV', hi, c1, k1]
      · by_cases k2 : 4 < r
        · simp [code24, h42, retP, hp, resV', hi, c1, k1, k2]
        · cases k3 : validD d with
          | false => simp [code24, h42, retP, hp, resV', hi, c1, k1, k2, k3]
          | true =>
            by_cases k4 : d < l[i].settled
            · simp [code24, h42, retP, hp, resV', hi, c1, k1, k2, k3, k4]
            · by_cases k5 : l[i].settled < IntKind.i64.wrap (d - window r)
              · simp [code24, h42, retP, hp, resV', hi, c1, k1, k2, k3, k4, k5]
              · simp [code24, h42, h39, retP, hp, resV', hi, c1, k1, k2, k3, k4, k5, returnedD, encL_set]
    · simp [code24, h42, retP, hp, resV', hi, c1]
set_option maxHeartbeats 8000000 in
theorem e25 (l : List Debit) (id r d : Int) (h : l.length ≤ 1000) : O 25 [.l (enc l), .i .i64 id, .i .i64 r, .i .i64 d] = some (resV' (retP l id r d)) := by
  refine orun (fc := code25) rfl rfl rfl ?_
  have h43 := e43 l id h
  have hb0 : l.length * 80 ≤ 140737488355328 := by omega
  cases hp : pos l id with
  | none => rw [hp] at h43; simp [posV] at h43; simp [code25, h43, retP, hp, resV']
  | some i =>
    obtain ⟨hi, _⟩ := pos_some hp
    rw [hp] at h43; simp [posV] at h43
    by_cases c1 : l[i].state = 2
    · by_cases k1 : r < 1
      · simp [code25, h43, retP, hp, resV', hi, c1, k1]
      · by_cases k2 : 4 < r
        · simp [code25, h43, retP, hp, resV', hi, c1, k1, k2]
        · cases k3 : validD d with
          | false => simp [code25, h43, retP, hp, resV', hi, c1, k1, k2, k3]
          | true =>
            by_cases k4 : d < l[i].settled
            · simp [code25, h43, retP, hp, resV', hi, c1, k1, k2, k3, k4]
            · by_cases k5 : l[i].settled < IntKind.i64.wrap (d - window r)
              · simp [code25, h43, retP, hp, resV', hi, c1, k1, k2, k3, k4, k5]
              · simp [code25, h43, hb0, retP, hp, resV', hi, c1, k1, k2, k3, k4, k5, returnedD, encL_set]
    · simp [code25, h43, retP, hp, resV', hi, c1]
/-- Two lists differ at most in what is settled, returned, the reason and the state of the element with an Id. -/
def Near (a b : List Debit) (id : Int) : Prop := a.length = b.length ∧ ∀ i (hi : i < a.length) (hj : i < b.length), a[i] = b[i] ∨ ((a[i].id = id ∧ b[i].id = id) ∧ a[i].amount = b[i].amount ∧ a[i].key = b[i].key ∧ a[i].mandate = b[i].mandate ∧ a[i].day = b[i].day)
set_option maxHeartbeats 8000000 in
theorem l26 (a b : List Debit) (id : Int) (h : a.length ≤ 1000) (hn : Near a b id) : loopK O [0, 1, 2, 7] body26_1 [(0, .l (enc a)), (1, .l (enc b)), (2, .i .i64 id), (7, .i .i64 0)] = some (.e 0, []) :=
  loopK_run (o := O) (kin := [0, 1, 2, 7]) (c := body26_1) (fun i => [(0, .l (enc a)), (1, .l (enc b)), (2, .i .i64 id), (7, .i .i64 i)]) a.length (.e 0, []) (by simp) (fun i hi => by
    have hw := wrap_i64 (i + 1) (by omega)
    have hj : i < b.length := by have := hn.1; omega
    rcases hn.2 i hi hj with he | ⟨⟨k1, k2⟩, k3, k4, k5, k6⟩
    · generalize hb : b[i] = y at he
      simp [body26_1, hi, hj, hw, he, hb]
    · generalize hb : b[i] = y at k2 k3 k4 k5 k6
      generalize ha : a[i] = x at k1 k3 k4 k5 k6
      obtain ⟨x1, x2, x3, x4, x5, x6, x7, x8, x9⟩ := x
      obtain ⟨y1, y2, y3, y4, y5, y6, y7, y8, y9⟩ := y
      simp only at k1 k2 k3 k4 k5 k6
      subst k1 k2 k3 k4 k5 k6
      by_cases d1 : x5 = y5 <;> by_cases d2 : x6 = y6 <;> by_cases d3 : x7 = y7 <;> by_cases d4 : x8 = y8 <;> simp [body26_1, hi, hj, hw, ha, hb, d1, d2, d3, d4]) (by simp [body26_1]) (by simp)
theorem e26 (a b : List Debit) (id : Int) (h : a.length ≤ 1000) (hn : Near a b id) : O 26 [.l (enc a), .l (enc b), .i .i64 id] = some (.b true) := by
  refine orun (fc := code26) rfl rfl rfl ?_
  have hl := l26 a b id h hn
  have he : (a.length : Int) = (b.length : Int) := by have := hn.1; omega
  simp [code26, exec_loopK, hl, he]
end Go.Proofs.YtoahbbpjhdegoaaDoor
