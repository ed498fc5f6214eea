/-
  Exposure, Check has a value, and the laws.
-/
import Derived.Test.YtjbnkdlklibomaaDoorSpec2
set_option linter.all false
namespace Go.Proofs.YtjbnkdlklibomaaDoor
open Go.VM
/-! ### Exposure -/
abbrev encL' (l : List Loan) : List V := encL Loan.v l
def expo (l : Loan) (n : Int) : Int := if l.state = 1 then w (n + outs l) else if l.state = 3 then w (n + w (l.loss - l.recovered)) else n
def expT (l : List Loan) (i : Nat) : Int := (l.take i).foldl (fun n d => expo d n) 0
@[simp] theorem expT_zero (l : List Loan) : expT l 0 = 0 := rfl
theorem expT_succ (l : List Loan) {i : Nat} (h : i < l.length) : expT l (i + 1) = expo l[i] (expT l i) := by
  unfold expT
  rw [List.take_succ_eq_append_getElem h, List.foldl_append]; rfl
theorem wrap_two (n a b : Int) : w (w (n + a) - b) = w (n + w (a - b)) := by
  have key : ∀ x : Int, ∃ k : Int, w x = x + k * 18446744073709551616 := fun x => by
    simp only [w, IntKind.wrap, IntKind.signed, IntKind.bits, Bool.true_and, decide_eq_true_eq]
    split
    · exact ⟨-(x / 18446744073709551616) - 1, by omega⟩
    · exact ⟨-(x / 18446744073709551616), by omega⟩
  have e : ∀ y : Int, w y = (fun m : Int => if (true && decide (m ≥ 2 ^ 63)) = true then m - 2 ^ 64 else m) (y % 2 ^ 64) := fun y => rfl
  have per : ∀ x k : Int, w (x + k * 18446744073709551616) = w x := fun x k => by
    have : (x + k * 18446744073709551616) % 2 ^ 64 = x % 2 ^ 64 := by omega
    rw [e, e, this]
  obtain ⟨k1, h1⟩ := key (n + a)
  obtain ⟨k2, h2⟩ := key (a - b)
  rw [h1, h2, show n + a + k1 * 18446744073709551616 - b = n + (a - b) + k1 * 18446744073709551616 by omega, per, show n + (a - b + k2 * 18446744073709551616) = n + (a - b) + k2 * 18446744073709551616 by omega, per]
def Few (l : List Loan) : Prop := ∀ x ∈ l, x.dues.length ≤ 40 ∧ x.changes.length ≤ 70
def DaysOk (l : List Loan) : Prop := ∀ x ∈ l, DayOk x.dues
set_option maxHeartbeats 4000000 in
theorem l15 (l : List Loan) (h : l.length ≤ 20) (hf : Few l) : loopK O [3, 6, 7, 8] body15_1 [(3, .i .i64 0), (6, .l (encL' l)), (7, .i .i64 l.length), (8, .i .i64 0)] = some (.e 0, [(3, .i .i64 (expT l l.length))]) := by
  have := loopK_run (o := O) (kin := [3, 6, 7, 8]) (c := body15_1) (fun i => [(3, .i .i64 (expT l i)), (6, .l (encL' l)), (7, .i .i64 l.length), (8, .i .i64 i)]) l.length (.e 0, [(3, .i .i64 (expT l l.length))]) (by simp) (fun i hi => by
    have hw := wrap_i64 (i + 1) (by omega)
    have hfi := (hf _ (List.getElem_mem hi)).1
    have he := expT_succ l hi
    unfold expo at he
    by_cases h1 : l[i].state = 1
    · have h27 := e27 _ hfi
      rw [if_pos h1] at he
      simp only [Loan.v] at h27
      rw [h1] at h27
      simp [body15_1, hi, hw, he, h1, h27]
    · rw [if_neg h1] at he
      by_cases h3 : l[i].state = 3
      · rw [if_pos h3] at he
        simp [body15_1, hi, hw, he, h3]
      · rw [if_neg h3] at he
        simp [body15_1, hi, hw, he, h1, h3]) (by simp [body15_1]) (by simp)
  exact this
theorem e15 (l : List Loan) (h : l.length ≤ 20) (hf : Few l) : O 15 [.l (encL' l)] = some (.i .i64 (expT l l.length)) := by
  refine orun (fc := code15) rfl rfl rfl ?_
  have hl := l15 l h hf
  simp [code15, exec_loopK, hl]
set_option maxHeartbeats 4000000 in
theorem l16 (l : List Loan) (h : l.length ≤ 20) (hf : Few l) (hd : DaysOk l) : loopK O [0, 3, 4] body16_1 [(0, .l (encL' l)), (3, .i .i64 0), (4, .i .i64 0)] = some (.e 0, [(3, .i .i64 (expT l l.length))]) := by
  have := loopK_run (o := O) (kin := [0, 3, 4]) (c := body16_1) (fun i => [(0, .l (encL' l)), (3, .i .i64 (expT l i)), (4, .i .i64 i)]) l.length (.e 0, [(3, .i .i64 (expT l l.length))]) (by simp) (fun i hi => by
    have hw := wrap_i64 (i + 1) (by omega)
    have hfi := (hf _ (List.getElem_mem hi)).1
    have hdi := hd _ (List.getElem_mem hi)
    have he := expT_succ l hi
    unfold expo at he
    by_cases h1 : l[i].state = 1
    · have h17 := e17 _ hfi hdi
      rw [if_pos h1] at he
      simp only [Loan.v] at h17
      rw [h1] at h17
      simp [body16_1, hi, hw, he, h1, h17]
    · rw [if_neg h1] at he
      by_cases h3 : l[i].state = 3
      · rw [if_pos h3] at he
        have := wrap_two (expT l i) l[i].loss l[i].recovered
        simp [body16_1, hi, hw, he, h3, this]
      · rw [if_neg h3] at he
        simp [body16_1, hi, hw, he, h1, h3]) (by simp [body16_1]) (by simp)
  exact this
theorem e16 (l : List Loan) (h : l.length ≤ 20) (hf : Few l) (hd : DaysOk l) : O 16 [.l (encL' l)] = some (.i .i64 (expT l l.length)) := by
  refine orun (fc := code16) rfl rfl rfl ?_
  have hl := l16 l h hf hd
  simp [code16, exec_loopK, hl]

/-! ### Check -/
@[simp] theorem e21 (l : Loan) (h : l.dues.length ≤ 40) (hd : DayOk l.dues) : O 21 [l.v] = some (.b (!decide (sumP l.dues = l.paidPrincipal) || (!decide (sumI l.dues = l.paidInterest) || (!decide (l.fee = 0) || !decide (l.penalty = 0))))) := by
  refine orun (fc := code21) rfl rfl rfl ?_
  have h19 := e19 l h hd
  have h20 := e20 l h hd
  by_cases c1 : sumP l.dues = l.paidPrincipal
  · by_cases c2 : sumI l.dues = l.paidInterest
    · by_cases c3 : l.fee = 0
      · have h19' := h19
        have h20' := h20
        simp only [Loan.v, c3] at h19' h20'
        simp [code21, h19, h20, h19', h20', c1, c2, c3]
      · simp [code21, h19, h20, c1, c2, c3]
    · simp [code21, h19, h20, c1, c2]
  · simp [code21, h19, c1]
end Go.Proofs.YtjbnkdlklibomaaDoor
