/-
  What the functions compute: the items of an account.
-/
import Derived.Test.YtmhpmghhgppdnaaEq1
namespace Go.Proofs.Ytmhpmghhgppdnaa
open Go.VM Go.RowKit
section
variable {X : Orc}
abbrev ents (l : List Entry) : List V := encL Entry.v l
abbrev legsV (l : List Leg) : List V := encL Leg.v l
def pickP (a : Int) (e : Entry) (x : Leg) : Option Item := if x.account = a then some ⟨e.key, e.value, IntKind.i64.wrap (-x.amount)⟩ else none
def legP (a : Int) (e : Entry) (q : Nat) : List Item := (e.legs.take q).filterMap (pickP a e)
def inP (f t : Int) (e : Entry) : Bool := decide (f ≤ e.booked) && decide (e.booked ≤ t)
def entP (a f t : Int) (e : Entry) : List Item := if inP f t e = true then legP a e e.legs.length else []
def outP (a f t : Int) (j : List Entry) (i : Nat) : List Item := (j.take i).flatMap (entP a f t)
theorem legP_succ (a : Int) (e : Entry) {q : Nat} (h : q < e.legs.length) : legP a e (q + 1) = legP a e q ++ (pickP a e e.legs[q]).toList := by
  unfold legP
  rw [List.take_succ_eq_append_getElem h, List.filterMap_append]
  cases hp : pickP a e e.legs[q] <;> simp [hp]
theorem outP_succ (a f t : Int) (j : List Entry) {i : Nat} (h : i < j.length) : outP a f t j (i + 1) = outP a f t j i ++ entP a f t j[i] := by
  unfold outP
  rw [List.take_succ_eq_append_getElem h, List.flatMap_append]
  simp
theorem legP_len (a : Int) (e : Entry) (q : Nat) : (legP a e q).length ≤ q := Nat.le_trans (List.length_filterMap_le _ _) (by simp; omega)
theorem entP_len (a f t : Int) (e : Entry) : (entP a f t e).length ≤ e.legs.length := by
  unfold entP
  split
  · exact legP_len a e _
  · simp
theorem outP_len (a f t : Int) (j : List Entry) (h : ∀ e ∈ j, e.legs.length ≤ 30) : ∀ i, (outP a f t j i).length ≤ i * 30
  | 0 => by simp [outP]
  | i + 1 => by
    by_cases hi : i < j.length
    · rw [outP_succ _ _ _ _ hi, List.length_append]
      have h1 := outP_len a f t j h i
      have h2 := entP_len a f t j[i]
      have h3 := h j[i] (List.getElem_mem hi)
      omega
    · have : outP a f t j (i + 1) = outP a f t j i := by unfold outP; rw [List.take_of_length_le (by omega), List.take_of_length_le (by omega)]
      rw [this]
      have := outP_len a f t j h i
      omega
theorem zz : ((0 : Nat) : Int) = 0 := rfl
abbrev I25 (a f t : Int) (j : List Entry) (e : Entry) (i : Nat) (acc : List Item) (q : Nat) : Env := [(1, .i .i64 a), (2, .i .i64 f), (3, .i .i64 t), (9, .ow 40 (items (acc ++ legP a e q))), (11, .bx e.cells), (14, .l (ents j)), (15, .i .i64 j.length), (16, .i .i64 i), (31, .l (legsV e.legs)), (32, .i .i64 e.legs.length), (33, .i .i64 q)]
abbrev F25 (a f t : Int) (j : List Entry) (acc : List Item) (i : Nat) : Env := [(1, .i .i64 a), (2, .i .i64 f), (3, .i .i64 t), (9, .ow 40 (items acc)), (14, .l (ents j)), (15, .i .i64 j.length), (16, .i .i64 i)]
theorem l25_1 (a f t : Int) (j : List Entry) (e : Entry) (i : Nat) (acc : List Item) (he : e.legs.length ≤ 30) (hacc : acc.length ≤ 100000) : loopK (O X) [1, 2, 3, 9, 11, 14, 15, 16, 31, 32, 33] body25_1 (I25 a f t j e i acc 0) = some (.e 2, F25 a f t j (acc ++ legP a e e.legs.length) i) := by
  refine loopK_run (o := O X) (kin := [1, 2, 3, 9, 11, 14, 15, 16, 31, 32, 33]) (c := body25_1) (fun q => I25 a f t j e i acc q) e.legs.length _ (by simp) (fun q hq => ?_) (by simp [body25_1]) (by simp)
  have hw := wrap_i64 (q + 1) (by omega)
  have hs := legP_succ a e hq
  have hL := legP_len a e q
  have hb : (acc.length + (legP a e q).length + 1) * 32 ≤ 140737488355328 := by omega
  by_cases hx : (e.legs[q]).account = a
  · simp [body25_1, hq, hw, hs, pickP, hx, hb, encL_append, encL_cons, encL_nil]
  · simp [body25_1, hq, hw, hs, pickP, hx]
theorem l25_2 (a f t : Int) (j : List Entry) (hj : j.length ≤ 40) (h : ∀ e ∈ j, e.legs.length ≤ 30) : loopK (O X) [1, 2, 3, 9, 14, 15, 16] body25_2 (F25 a f t j [] 0) = some (.e 0, [(9, .ow 40 (items (outP a f t j j.length)))]) := by
  have := loopK_run (o := O X) (kin := [1, 2, 3, 9, 14, 15, 16]) (c := body25_2) (fun i => F25 a f t j (outP a f t j i) i) j.length (.e 0, [(9, .ow 40 (items (outP a f t j j.length)))]) (by simp) (fun i hi => by
    have hw := wrap_i64 (i + 1) (by omega)
    have hs := outP_succ a f t j hi
    have hol := outP_len a f t j h i
    have h1 := l25_1 (X := X) a f t j j[i] i (outP a f t j i) (h _ (List.getElem_mem hi)) (by omega)
    simp only [I25, legP, List.take_zero, List.filterMap_nil, List.append_nil, zz] at h1
    by_cases hb : (j[i]).booked < f
    · have hn : inP f t j[i] = false := by simp [inP]; omega
      simp [body25_2, hi, hw, hs, entP, hn, hb]
    · by_cases hc : t < (j[i]).booked
      · have hn : inP f t j[i] = false := by simp [inP]; omega
        simp [body25_2, hi, hw, hs, entP, hn, hb, hc]
      · have hn : inP f t j[i] = true := by simp [inP]; omega
        simp [body25_2, hi, hw, hs, entP, hn, hb, hc, exec_loopK, h1, legP]) (by simp [body25_2]) (by simp)
  simpa [outP] using this
theorem o25 (a f t : Int) (j : List Entry) (hj : j.length ≤ 40) (h : ∀ e ∈ j, e.legs.length ≤ 30) : O X 25 [.l (ents j), .i .i64 a, .i .i64 f, .i .i64 t] = some (.ow 40 (items (outP a f t j j.length))) := by
  refine orun (fc := code25) rfl rfl rfl ?_
  have h1 := l25_2 (X := X) a f t j hj h
  simp only [F25, items, encL_nil, zz] at h1
  simp [code25, exec_loopK, h1]
/-! ### The reference -/
theorem loopK_end {o : Orc} {kin : List Nat} {c : C} {env : Env} {r : Ex × Env} (hF : keepE kin env = env) (h : exec o c env = some r) (hr : r.1 ≠ .n) : loopK o kin c env = some r := by
  rw [loopK, loopC_eq, hF, h]
  obtain ⟨e, g⟩ := r
  cases e with
  | n => exact absurd rfl hr
  | e id => rfl
  | r => rfl
abbrev F26 (a f t : Int) (j : List Entry) (acc : List Item) (i : Nat) : Env := [(0, .l (ents j)), (1, .i .i64 a), (2, .i .i64 f), (3, .i .i64 t), (9, .ow 40 (items acc)), (10, .i .i64 i)]
abbrev I26 (a f t : Int) (j : List Entry) (e : Entry) (i : Nat) (acc : List Item) (q : Nat) : Env := [(0, .l (ents j)), (1, .i .i64 a), (2, .i .i64 f), (3, .i .i64 t), (9, .ow 40 (items (acc ++ legP a e q))), (10, .i .i64 i), (11, .i .i64 q)]
set_option maxHeartbeats 4000000 in
theorem l26_1 (a f t : Int) (j : List Entry) {i : Nat} (hi : i < j.length) (acc : List Item) (he : j[i].legs.length ≤ 30) (hacc : acc.length ≤ 100000) (hin : inP f t j[i] = true) : loopK (O X) [0, 1, 2, 3, 9, 10, 11] body26_1 (I26 a f t j j[i] i acc 0) = some (.e 2, F26 a f t j (acc ++ legP a j[i] j[i].legs.length) i) := by
  simp only [inP, Bool.and_eq_true, decide_eq_true_eq] at hin
  refine loopK_run (o := O X) (kin := [0, 1, 2, 3, 9, 10, 11]) (c := body26_1) (fun q => I26 a f t j j[i] i acc q) j[i].legs.length _ (by simp) (fun q hq => ?_) (by simp [body26_1, hi]) (by simp)
  have hw := wrap_i64 (q + 1) (by omega)
  have hs := legP_succ a j[i] hq
  have hL := legP_len a j[i] q
  have hb : (acc.length + (legP a j[i] q).length + 1) * 32 ≤ 140737488355328 := by omega
  by_cases hx : (j[i].legs[q]).account = a
  · simp (config := { maxSteps := 1000000 }) [body26_1, hi, hq, hw, hs, pickP, hx, hb, hin.1, hin.2, encL_append, encL_cons, encL_nil]
  · simp [body26_1, hi, hq, hw, hs, pickP, hx, hin.1, hin.2]
theorem l26_0 (a f t : Int) (j : List Entry) {i : Nat} (hi : i < j.length) (acc : List Item) (hin : inP f t j[i] = false) : loopK (O X) [0, 1, 2, 3, 9, 10, 11] body26_1 (I26 a f t j j[i] i acc 0) = some (.e 2, F26 a f t j acc i) := by
  refine loopK_end (by simp) ?_ (by simp)
  have hz : legP a j[i] 0 = [] := by simp [legP]
  by_cases h1 : f ≤ (j[i]).booked
  · have h2 : ¬ (j[i]).booked ≤ t := by simp [inP, h1] at hin; omega
    by_cases h0 : 0 < (j[i]).legs.length <;> simp [body26_1, hi, h1, h2, hz, h0]
  · by_cases h0 : 0 < (j[i]).legs.length <;> simp [body26_1, hi, h1, hz, h0]
theorem l26_2 (a f t : Int) (j : List Entry) (hj : j.length ≤ 40) (h : ∀ e ∈ j, e.legs.length ≤ 30) : loopK (O X) [0, 1, 2, 3, 9, 10] body26_2 (F26 a f t j [] 0) = some (.e 0, [(9, .ow 40 (items (outP a f t j j.length)))]) := by
  have := loopK_run (o := O X) (kin := [0, 1, 2, 3, 9, 10]) (c := body26_2) (fun i => F26 a f t j (outP a f t j i) i) j.length (.e 0, [(9, .ow 40 (items (outP a f t j j.length)))]) (by simp) (fun i hi => by
    have hw := wrap_i64 (i + 1) (by omega)
    have hs := outP_succ a f t j hi
    have hol := outP_len a f t j h i
    cases hin : inP f t j[i] with
    | true =>
      have h1 := l26_1 (X := X) a f t j hi (outP a f t j i) (h _ (List.getElem_mem hi)) (by omega) hin
      simp only [I26, legP, List.take_zero, List.filterMap_nil, List.append_nil, zz] at h1
      simp [body26_2, hi, hw, hs, entP, hin, exec_loopK, h1, legP]
    | false =>
      have h1 := l26_0 (X := X) a f t j hi (outP a f t j i) hin
      simp only [I26, legP, List.take_zero, List.filterMap_nil, List.append_nil, zz] at h1
      simp [body26_2, hi, hw, hs, entP, hin, exec_loopK, h1]) (by simp [body26_2]) (by simp)
  simpa [outP] using this
theorem o26 (a f t : Int) (j : List Entry) (hj : j.length ≤ 40) (h : ∀ e ∈ j, e.legs.length ≤ 30) : O X 26 [.l (ents j), .i .i64 a, .i .i64 f, .i .i64 t] = some (.ow 40 (items (outP a f t j j.length))) := by
  refine orun (fc := code26) rfl rfl rfl ?_
  have h1 := l26_2 (X := X) a f t j hj h
  simp only [F26, items, encL_nil, zz] at h1
  simp [code26, exec_loopK, h1]
/-! ### What is great, what is the same -/
def grL (e : Entry) (i : Nat) : Option Unit := match e.legs[i]? with
  | some x => if 100 < x.currency.length then some () else none
  | none => none
def grE (e : Entry) : Bool := (decide (30 < e.legs.length) || decide (1000 < e.key.length) || decide (1000 < e.text.length)) || ((List.range e.legs.length).findSome? (grL e)).isSome
theorem l40 (e : Entry) (h : e.legs.length ≤ 30) : loopK (O X) [1, 3] body40_1 [(1, .bx e.cells), (3, .i .i64 0)] = some (optE (fun _ => (.r, [(2, .b true)])) (.e 0, []) ((List.range e.legs.length).findSome? (grL e))) := by
  have := loopK_code (o := O X) (kin := [1, 3]) (c := body40_1) (fun i => [(1, .bx e.cells), (3, .i .i64 i)]) e.legs.length (grL e) (fun _ => (.r, [(2, .b true)])) (.e 0, []) (by simp) (by simp) (fun i hi => by
    have hw := wrap_i64 (i + 1) (by omega)
    by_cases h : 100 < (e.legs[i]).currency.length
    · have h' : (100 : Int) < ((e.legs[i]).currency.length : Int) := by omega
      simp [body40_1, hi, grL, h, h']
    · have h' : ¬ (100 : Int) < ((e.legs[i]).currency.length : Int) := by omega
      simp [body40_1, hi, hw, grL, h, h']) (by simp [body40_1]) (by simp)
  exact this
theorem o40 (e : Entry) : O X 40 [e.v] = some (.b (grE e)) := by
  refine orun (fc := code40) rfl rfl rfl ?_
  have h1 : (30 : Int) < (e.legs.length : Int) ↔ 30 < e.legs.length := by omega
  have h2 : (1000 : Int) < (e.key.length : Int) ↔ 1000 < e.key.length := by omega
  have h3 : (1000 : Int) < (e.text.length : Int) ↔ 1000 < e.text.length := by omega
  by_cases hl : 30 < e.legs.length
  · simp [code40, grE, h1, hl]
  · by_cases hk : 1000 < e.key.length
    · simp [code40, grE, h1, hl, h2, hk]
    · by_cases ht : 1000 < e.text.length
      · simp [code40, grE, h1, hl, h2, hk, h3, ht]
      · have hh := l40 (X := X) e (by omega)
        cases hq : (List.range e.legs.length).findSome? (grL e) <;> rw [hq] at hh <;> simp [code40, grE, h1, hl, h2, hk, h3, ht, exec_loopK, hh, hq]
theorem grE_len {e : Entry} (h : grE e = false) : e.legs.length ≤ 30 := by
  simp only [grE, Bool.or_eq_false_iff, decide_eq_false_iff_not] at h
  omega
def grJ (j : List Entry) (i : Nat) : Option Unit := match j[i]? with
  | some e => if grE e = true then some () else none
  | none => none
def greatJ (j : List Entry) : Bool := ((List.range (min j.length 41)).findSome? (grJ j)).isSome || decide (40 < j.length)
theorem l23 (j : List Entry) : loopK (O X) [0, 1, 5] body23_1 [(0, .l (ents j)), (1, .i .i64 40), (5, .i .i64 0)] = some (optE (fun _ => (.r, [(4, .b true)])) (.e 0, [(0, .l (ents j)), (1, .i .i64 40)]) ((List.range (min j.length 41)).findSome? (grJ j))) := by
  have := loopK_code (o := O X) (kin := [0, 1, 5]) (c := body23_1) (fun i => [(0, .l (ents j)), (1, .i .i64 40), (5, .i .i64 i)]) (min j.length 41) (grJ j) (fun _ => (.r, [(4, .b true)])) (.e 0, [(0, .l (ents j)), (1, .i .i64 40)]) (by simp) (by simp) (fun i hi => by
    have hw := wrap_i64 (i + 1) (by omega)
    have hi1 : i < j.length := by omega
    have hi2 : (i : Int) ≤ 40 := by omega
    have h40 := o40 (X := X) j[i]
    simp only [Entry.v] at h40
    cases h : grE j[i] <;> rw [h] at h40 <;> simp [body23_1, hi1, hi2, hw, grJ, h, h40]) (by
    by_cases h : j.length ≤ 40
    · have : min j.length 41 = j.length := by omega
      simp [body23_1, this]
    · have : min j.length 41 = 41 := by omega
      have h2 : (41 : Int) < (j.length : Int) ∨ ¬ (41 : Int) < (j.length : Int) := by omega
      rcases h2 with h2 | h2 <;> simp [body23_1, this, h2]) (by simp)
  exact this
theorem o23 (j : List Entry) : O X 23 [.l (ents j), .i .i64 40] = some (.b (greatJ j)) := by
  refine orun (fc := code23) rfl rfl rfl ?_
  have hl := l23 (X := X) j
  have h1 : (40 : Int) < (j.length : Int) ↔ 40 < j.length := by omega
  cases hq : (List.range (min j.length 41)).findSome? (grJ j) <;> rw [hq] at hl <;> simp [code23, exec_loopK, hl, greatJ, hq, h1]
theorem greatJ_len {j : List Entry} (h : greatJ j = false) : j.length ≤ 40 ∧ ∀ e ∈ j, e.legs.length ≤ 30 := by
  simp only [greatJ, Bool.or_eq_false_iff, decide_eq_false_iff_not] at h
  have hl : j.length ≤ 40 := by omega
  refine ⟨hl, fun e he => ?_⟩
  obtain ⟨i, hi, rfl⟩ := List.mem_iff_getElem.1 he
  have h0 : (List.range (min j.length 41)).findSome? (grJ j) = none := by simpa using h.1
  have := range_find_none.1 h0 i (by omega)
  simp only [grJ, List.getElem?_eq_getElem hi] at this
  refine grE_len ?_
  cases hg : grE j[i] with
  | false => rfl
  | true => simp [hg] at this
theorem o24 (l : List Item) (h : l.length ≤ 100000) : O X 24 [.l (items l), .l (items l)] = some (.b true) := by
  refine orun (fc := code24) rfl rfl rfl ?_
  have hl := loopK_run (o := O X) (kin := [0, 1, 5]) (c := body24_1) (fun i => [(0, .l (items l)), (1, .l (items l)), (5, .i .i64 i)]) l.length (.e 0, []) (by simp) (fun i hi => by
    have hw := wrap_i64 (i + 1) (by omega)
    simp [body24_1, hi, hw]) (by simp [body24_1]) (by simp)
  simp only [zz] at hl
  simp [code24, exec_loopK, hl]
theorem o8 (hlive : O X 10 [] = some (.b true)) (j : List Entry) (s : Span) : O X 8 [.l (ents j), s.v] = some (.b true) := by
  refine orun (fc := code8) rfl rfl rfl ?_
  have h1 := o23 (X := X) j
  cases hg : greatJ j with
  | true => rw [hg] at h1; simp [code8, h1, hlive]
  | false =>
    obtain ⟨hj, hl⟩ := greatJ_len hg
    have h2 := o25 (X := X) s.account s.from' s.to' j hj hl
    have h3 := o26 (X := X) s.account s.from' s.to' j hj hl
    have hol := outP_len s.account s.from' s.to' j hl j.length
    have h4 := o24 (X := X) (outP s.account s.from' s.to' j j.length) (by omega)
    rw [hg] at h1
    simp [code8, h1, h2, h3, h4, hlive]
end
end Go.Proofs.Ytmhpmghhgppdnaa
