/-
  What the functions that the laws reach compute: Present, Settle, Return, others.
-/
import Derived.Test.YtoahbbpjhdegoaaDoorSpec3
namespace Go.Proofs.YtoahbbpjhdegoaaDoor
open Go.VM
/-! ### Present -/
def ready (x : Debit) (day : Int) : Bool := decide (1 ≤ x.id) && (amount x.amount && (validD x.day && (validD day && (presented x && keyOk x.key))))
/-- What Present answers: 0 where it presents. -/
def presE (l : List Debit) (ms : List Mandate) (x : Debit) (day : Int) : Int :=
  if ready x day = false then 1
  else if (above l x).isSome = true then 10
  else if x.key ∈ keys l then 12
  else if allow ms x.mandate x.amount x.day ≠ 0 then allow ms x.mandate x.amount x.day
  else if x.day < day then 23
  else if 64 ≤ l.length then 5
  else 0
def presV (l : List Debit) (ms : List Mandate) (x : Debit) (day : Int) : V :=
  if presE l ms x day = 0 then .t [.ow 32 (enc (l ++ [x])), .i .i64 0] else .t [.ow 32 [], .i .i64 (presE l ms x day)]
theorem enc_append (l : List Debit) (x : Debit) : enc (l ++ [x]) = enc l ++ [x.v] := by simp [enc, encL]
set_option maxHeartbeats 16000000 in
theorem e16 (l : List Debit) (ms : List Mandate) (x : Debit) (day : Int) (h : l.length ≤ 1000) (hm : ms.length ≤ 1000) (hk : x.key.length ≤ maxLen) : O 16 [.l (enc l), .l (encM ms), x.v, .i .i64 day] = some (presV l ms x day) := by
  refine orun (fc := code16) rfl rfl rfl ?_
  have h34 := e34 x
  have h29 := e29 x.key hk
  have h35b := e35b l x h
  have h35c := e35c l x h
  rw [sameKey_iff] at h35c
  have h38 := e38 ms x.mandate x.amount x.day hm
  have h39 := e39 l h
  unfold presV presE
  by_cases g1 : 1 ≤ x.id
  · have g1' : ¬ x.id < 1 := by omega
    cases g2 : amount x.amount with
    | false => simp [code16, ready, g1, g1', g2]
    | true =>
      cases g3 : validD x.day with
      | false => simp [code16, ready, g1, g1', g2, g3]
      | true =>
        cases g4 : validD day with
        | false => simp [code16, ready, g1, g1', g2, g3, g4]
        | true =>
          cases g5 : presented x with
          | false => rw [g5] at h34; simp [code16, ready, g1, g1', g2, g3, g4, g5, h34]
          | true =>
            rw [g5] at h34
            cases g6 : keyOk x.key with
            | false => rw [g6] at h29; simp [code16, ready, g1, g1', g2, g3, g4, g5, g6, h34, h29]
            | true =>
              rw [g6] at h29
              cases c1 : (above l x).isSome with
              | true => rw [c1] at h35b; simp [code16, ready, g1, g1', g2, g3, g4, g5, g6, h34, h29, h35b]
              | false =>
                rw [c1] at h35b
                by_cases c2 : x.key ∈ keys l
                · rw [decide_eq_true c2] at h35c
                  simp [code16, ready, g1, g1', g2, g3, g4, g5, g6, h34, h29, h35b, h35c, c2]
                · rw [decide_eq_false c2] at h35c
                  generalize allow ms x.mandate x.amount x.day = al at h38
                  by_cases c3 : al = 0
                  · subst c3
                    by_cases c4 : x.day < day
                    · simp [code16, ready, g1, g1', g2, g3, g4, g5, g6, h34, h29, h35b, h35c, c2, h38, c4]
                    · by_cases c5 : 64 ≤ l.length
                      · have c5' : (64 : Int) ≤ (l.length : Int) := by omega
                        simp [code16, ready, g1, g1', g2, g3, g4, g5, g6, h34, h29, h35b, h35c, c2, h38, c4, c5, c5']
                      · have c5' : ¬ (64 : Int) ≤ (l.length : Int) := by omega
                        have hlen : (l.length + 1) * 80 ≤ 140737488355328 := by omega
                        simp [code16, ready, g1, g1', g2, g3, g4, g5, g6, h34, h29, h35b, h35c, c2, h38, c4, c5, c5', h39, hlen, enc_append]
                  · simp [code16, ready, g1, g1', g2, g3, g4, g5, g6, h34, h29, h35b, h35c, c2, h38, c3]
  · have g1' : x.id < 1 := by omega
    simp [code16, ready, g1, g1']
theorem above_all {l : List Debit} {d : Debit} (h : above l d = none) : ∀ i (hi : i < l.length), l[i].id < d.id := by
  intro i hi
  have := range_find_none.1 h i hi
  simp only [aboveAt, List.getElem?_eq_getElem hi] at this
  split at this
  · cases this
  · omega
theorem l17 (l : List Debit) (ms : List Mandate) (x : Debit) (day : Int) (h : l.length ≤ 1000) : loopK O [0, 1, 3, 6, 10] body17_1 [(0, .l (enc l)), (1, .l (encM ms)), (3, .i .i64 day), (6, .bx x.cells), (10, .i .i64 0)] =
    some (optE (fun _ => (.r, [(8, .ow 32 []), (9, .i .i64 10)])) (.e 0, [(0, .l (enc l)), (1, .l (encM ms)), (3, .i .i64 day), (6, .bx x.cells)]) (above l x)) := by
  have := loopK_code (o := O) (kin := [0, 1, 3, 6, 10]) (c := body17_1) (fun i => [(0, .l (enc l)), (1, .l (encM ms)), (3, .i .i64 day), (6, .bx x.cells), (10, .i .i64 i)]) l.length (aboveAt l x) (fun _ => (.r, [(8, .ow 32 []), (9, .i .i64 10)])) (.e 0, [(0, .l (enc l)), (1, .l (encM ms)), (3, .i .i64 day), (6, .bx x.cells)]) (by simp) (by simp) (fun i hi => by
    have hw := wrap_i64 (i + 1) (by omega)
    by_cases c : x.id ≤ l[i].id <;> simp [body17_1, hi, hw, aboveAt, c]) (by simp [body17_1]) (by simp)
  exact this
set_option maxHeartbeats 16000000 in
theorem e17 (l : List Debit) (ms : List Mandate) (x : Debit) (day : Int) (h : l.length ≤ 1000) (hm : ms.length ≤ 1000) : O 17 [.l (enc l), .l (encM ms), x.v, .i .i64 day] = some (presV l ms x day) := by
  refine orun (fc := code17) rfl rfl rfl ?_
  have h31 := e31 x
  have h32 := e32 x
  have h33 := e33 l x.key h
  have h41 := e41 ms x.mandate x.amount x.day hm
  have hl := l17 l ms x day h
  have hr : ready x day = (shaped x && (validD day && (decide (x.state = 1) && fits x))) := by
    unfold ready shaped presented
    by_cases c : x.state = 1
    · have hf : fits x = ((decide (x.settled = 0) && decide (x.returned = 0)) && decide (x.reason = 0)) := by simp [fits, c]
      rw [hf]
      simp only [c, decide_true, Bool.true_and]
      cases decide (1 ≤ x.id) <;> cases amount x.amount <;> cases validD x.day <;> cases validD day <;> cases keyOk x.key <;> cases decide (x.settled = 0) <;> cases decide (x.returned = 0) <;> cases decide (x.reason = 0) <;> rfl
    · simp [c]
  unfold presV presE
  rw [hr]
  cases g1 : shaped x with
  | false => rw [g1] at h31; simp [code17, h31]
  | true =>
    rw [g1] at h31
    cases g4 : validD day with
    | false => simp [code17, h31, g4]
    | true =>
      by_cases g5 : x.state = 1
      · cases g6 : fits x with
        | false => rw [g6] at h32; obtain ⟨xid, xm, xa, xd, xs, xr, xre, state, xk⟩ := x; simp only at g5; subst g5; simp [code17, h31, g4, h32]
        | true =>
          rw [g6] at h32
          obtain ⟨xid, xm, xa, xd, xs, xr, xre, state, xk⟩ := x
          simp only at g5 h33 h41
          subst g5
          cases c1 : above l ⟨xid, xm, xa, xd, xs, xr, xre, 1, xk⟩ with
          | some j => rw [c1] at hl; simp [code17, h31, g4, h32, exec_loopK, hl]
          | none =>
            rw [c1] at hl
            by_cases c2 : xk ∈ keys l
            · rw [decide_eq_true c2] at h33
              simp [code17, h31, g4, h32, exec_loopK, hl, h33, c2]
            · rw [decide_eq_false c2] at h33
              generalize allow ms xm xa xd = al at h41
              by_cases c3 : al = 0
              · subst c3
                by_cases c4 : xd < day
                · simp [code17, h31, g4, h32, exec_loopK, hl, h33, c2, h41, c4]
                · by_cases c5 : 64 ≤ l.length
                  · have c5' : (64 : Int) ≤ (l.length : Int) := by omega
                    simp [code17, h31, g4, h32, exec_loopK, hl, h33, c2, h41, c4, c5, c5']
                  · have c5' : ¬ (64 : Int) ≤ (l.length : Int) := by omega
                    have hlen : (l.length + 1) * 80 ≤ 140737488355328 := by omega
                    have hlen0 : l.length * 80 ≤ 140737488355328 := by omega
                    simp [code17, h31, g4, h32, exec_loopK, hl, h33, c2, h41, c4, c5, c5', hlen, hlen0, enc_append]
              · simp [code17, h31, g4, h32, exec_loopK, hl, h33, c2, h41, c3]
      · simp [code17, h31, g4, g5]
end Go.Proofs.YtoahbbpjhdegoaaDoor
