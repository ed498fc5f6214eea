/-
  What the functions that the laws reach compute: copies of loans, write-offs, recoveries, exposures.
-/
import Derived.Test.YtjbnkdlklibomaaDoorSpec
set_option linter.all false
namespace Go.Proofs.YtjbnkdlklibomaaDoor
open Go.VM
def fewB (l : Loan) : Bool := decide (l.dues.length ≤ 40) && decide (l.changes.length ≤ 70)
@[simp] theorem e7 (l : Loan) : O 7 [l.v] = some (.b (fewB l)) := by
  refine orun (fc := code7) rfl rfl rfl ?_
  by_cases h1 : l.dues.length ≤ 40
  · have h1' : ((l.dues.length : Int) ≤ 40) := by omega
    by_cases h2 : l.changes.length ≤ 70
    · have h2' : ((l.changes.length : Int) ≤ 70) := by omega
      simp [code7, fewB, h1, h2, h1', h2']
    · have h2' : ¬ ((l.changes.length : Int) ≤ 70) := by omega
      simp [code7, fewB, h1, h2, h1', h2']
  · have h1' : ¬ ((l.dues.length : Int) ≤ 40) := by omega
    simp [code7, fewB, h1, h1']
theorem l30 (l : List Due) (h : l.length ≤ 40) : loopK O [0, 1, 5] body30_1 [(0, .l (encD l)), (1, .l (encD l)), (5, .i .i64 0)] = some (.e 0, []) := by
  have := loopK_run (o := O) (kin := [0, 1, 5]) (c := body30_1) (fun i => [(0, .l (encD l)), (1, .l (encD l)), (5, .i .i64 i)]) l.length (.e 0, []) (by simp) (fun i hi => by
    have hw := wrap_i64 (i + 1) (by omega)
    simp [body30_1, hi, hw]) (by simp [body30_1]) (by simp)
  exact this
@[simp] theorem e30 (l : List Due) (h : l.length ≤ 40) : O 30 [.l (encD l), .l (encD l)] = some (.b true) := by
  refine orun (fc := code30) rfl rfl rfl ?_
  have hl := l30 l h
  simp [code30, exec_loopK, hl]
theorem l31 (l : List Change) (h : l.length ≤ 70) : loopK O [0, 1, 5] body31_1 [(0, .l (encC l)), (1, .l (encC l)), (5, .i .i64 0)] = some (.e 0, []) := by
  have := loopK_run (o := O) (kin := [0, 1, 5]) (c := body31_1) (fun i => [(0, .l (encC l)), (1, .l (encC l)), (5, .i .i64 i)]) l.length (.e 0, []) (by simp) (fun i hi => by
    have hw := wrap_i64 (i + 1) (by omega)
    simp [body31_1, hi, hw]) (by simp [body31_1]) (by simp)
  exact this
@[simp] theorem e31 (l : List Change) (h : l.length ≤ 70) : O 31 [.l (encC l), .l (encC l)] = some (.b true) := by
  refine orun (fc := code31) rfl rfl rfl ?_
  have hl := l31 l h
  simp [code31, exec_loopK, hl]
set_option maxHeartbeats 4000000 in
@[simp] theorem e12 (l : Loan) (h1 : l.dues.length ≤ 40) (h2 : l.changes.length ≤ 70) : O 12 [l.v, l.v] = some (.b true) := by
  refine orun (fc := code12) rfl rfl rfl ?_
  simp [code12, h1, h2]
set_option maxHeartbeats 4000000 in
@[simp] theorem e26 (l : Loan) (h1 : l.dues.length ≤ 40) (h2 : l.changes.length ≤ 70) : O 26 [l.v] = some l.v := by
  refine orun (fc := code26) rfl rfl rfl ?_
  simp [code26, h1, h2]
abbrev lossV (l : Loan) : Int := w (outs l - l.provision)
@[simp] theorem e25 (l : Loan) (h1 : l.dues.length ≤ 40) : O 25 [.a l.cells] = some (.i .i64 (lossV l)) := by
  refine orun (fc := code25) rfl rfl rfl ?_
  have := e27 l h1
  simp [code25, this]
abbrev noTerms : Terms := ⟨0, 0, 0, 0, 0, 0, 0, 0, 0, 0, [], []⟩
abbrev noLoan : Loan := ⟨0, 0, 0, 0, 0, 0, 0, 0, 0, 0, 0, noTerms, [], []⟩
/-- Write. -/
def written (l : Loan) : Loan := { l with state := 3, loss := outs l, provision := 0, fee := 0, penalty := 0 }
def mayWrite (l : Loan) (d : Int) : Bool := decide (l.state = 1) && decide (bucket (days l d) = 4)
def writeV (l : Loan) (d : Int) : V := if mayWrite l d = true then .t [(written l).v, .i .i64 (lossV l), .i .i64 0] else .t [noLoan.v, .i .i64 0, .i .i64 17]
set_option maxHeartbeats 16000000 in
theorem e10 (l : Loan) (d : Int) (h1 : l.dues.length ≤ 40) (h2 : l.changes.length ≤ 70) : O 10 [l.v, .i .i64 d] = some (writeV l d) := by
  refine orun (fc := code10) rfl rfl rfl ?_
  have h24 := e24 l d h1
  have h26 := e26 l h1 h2
  have h27 := e27 l h1
  have h25 := e25 l h1
  obtain ⟨id, account, state, paidPrincipal, paidInterest, fee, penalty, charged, provision, loss, recovered', terms, dues, changes⟩ := l
  by_cases hs : state = 1
  · subst hs
    by_cases hb : bucket (days ⟨id, account, 1, paidPrincipal, paidInterest, fee, penalty, charged, provision, loss, recovered', terms, dues, changes⟩ d) = 4
    · simp [code10, writeV, mayWrite, written, hb, h24, h25, h26, h27]
    · simp [code10, writeV, mayWrite, hb, h24]
  · simp [code10, writeV, mayWrite, hs]
set_option maxHeartbeats 16000000 in
theorem e11 (l : Loan) (d : Int) (h1 : l.dues.length ≤ 40) (h2 : l.changes.length ≤ 70) (hd : DayOk l.dues) : O 11 [l.v, .i .i64 d] = some (writeV l d) := by
  refine orun (fc := code11) rfl rfl rfl ?_
  have h29 := e29 l d h1
  have h17 := e17 l h1 hd
  obtain ⟨id, account, state, paidPrincipal, paidInterest, fee, penalty, charged, provision, loss, recovered', terms, dues, changes⟩ := l
  simp only at h1 h2
  have h5 : dues.length * 32 ≤ 140737488355328 := by omega
  have h6 : changes.length * 128 ≤ 140737488355328 := by omega
  by_cases hs : state = 1
  · subst hs
    by_cases hb : bucket (days ⟨id, account, 1, paidPrincipal, paidInterest, fee, penalty, charged, provision, loss, recovered', terms, dues, changes⟩ d) = 4
    · simp [code11, writeV, mayWrite, written, hb, h29, h17, h5, h6]
    · simp [code11, writeV, mayWrite, hb, h29]
  · simp [code11, writeV, mayWrite, hs]
/-- Recover. -/
def recE (l : Loan) (n d : Int) : Int := if l.state ≠ 3 then 17 else if n < 1 ∨ 1000000000000 < n ∨ validD d = false then 1 else if w (l.loss - l.recovered) < n then 18 else 0
def recovered (l : Loan) (n : Int) : Loan := { l with recovered := w (l.recovered + n) }
def recV (l : Loan) (n d : Int) : V := if recE l n d = 0 then .t [(recovered l n).v, .i .i64 n, .i .i64 0] else .t [noLoan.v, .i .i64 0, .i .i64 (recE l n d)]
set_option maxHeartbeats 16000000 in
theorem e13 (l : Loan) (n d : Int) (h1 : l.dues.length ≤ 40) (h2 : l.changes.length ≤ 70) : O 13 [l.v, .i .i64 n, .i .i64 d] = some (recV l n d) := by
  refine orun (fc := code13) rfl rfl rfl ?_
  have h26 := e26 l h1 h2
  obtain ⟨id, account, state, paidPrincipal, paidInterest, fee, penalty, charged, provision, loss, recovered', terms, dues, changes⟩ := l
  by_cases hs : state = 3
  · subst hs
    by_cases ha : n < 1
    · simp [code13, recV, recE, ha]
    · by_cases hb : 1000000000000 < n
      · simp [code13, recV, recE, ha, hb]
      · cases hv : validD d with
        | false => simp [code13, recV, recE, ha, hb, hv]
        | true =>
          by_cases hf : w (loss - recovered') < n
          · simp [code13, recV, recE, ha, hb, hv, hf]
          · simp [code13, recV, recE, recovered, ha, hb, hv, hf, h26]
  · simp [code13, recV, recE, hs]
set_option maxHeartbeats 16000000 in
theorem e14 (l : Loan) (n d : Int) (h1 : l.dues.length ≤ 40) (h2 : l.changes.length ≤ 70) : O 14 [l.v, .i .i64 n, .i .i64 d] = some (recV l n d) := by
  refine orun (fc := code14) rfl rfl rfl ?_
  obtain ⟨id, account, state, paidPrincipal, paidInterest, fee, penalty, charged, provision, loss, recovered', terms, dues, changes⟩ := l
  simp only at h1 h2
  have h5 : dues.length * 32 ≤ 140737488355328 := by omega
  have h6 : changes.length * 128 ≤ 140737488355328 := by omega
  by_cases hs : state = 3
  · subst hs
    by_cases ha : n < 1
    · simp [code14, recV, recE, ha]
    · by_cases hb : 1000000000000 < n
      · simp [code14, recV, recE, ha, hb]
      · cases hv : validD d with
        | false => simp [code14, recV, recE, ha, hb, hv]
        | true =>
          by_cases hf : w (loss - recovered') < n
          · simp [code14, recV, recE, ha, hb, hv, hf]
          · simp [code14, recV, recE, recovered, ha, hb, hv, hf, h5, h6]
  · simp [code14, recV, recE, hs]
end Go.Proofs.YtjbnkdlklibomaaDoor
