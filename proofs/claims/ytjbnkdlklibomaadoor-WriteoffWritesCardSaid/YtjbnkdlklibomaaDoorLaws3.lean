/-
  The laws over what the functions compute.
-/
import Derived.Test.YtjbnkdlklibomaaDoorLaws2
set_option linter.all false
namespace Go.Proofs.YtjbnkdlklibomaaDoor
open Go.VM
theorem not_few {l : Loan} (h : fewB l = true) : l.dues.length ≤ 40 ∧ l.changes.length ≤ 70 := by
  simpa [fewB] using h
theorem few_written {l : Loan} (h1 : l.dues.length ≤ 40) (h2 : l.changes.length ≤ 70) : O 12 [(written l).v, (written l).v] = some (.b true) := e12 (written l) h1 h2
theorem few_recovered {l : Loan} (n : Int) (h1 : l.dues.length ≤ 40) (h2 : l.changes.length ≤ 70) : O 12 [(recovered l n).v, (recovered l n).v] = some (.b true) := e12 (recovered l n) h1 h2
theorem no_same : O 12 [noLoan.v, noLoan.v] = some (.b true) := e12 noLoan (by simp) (by simp)
set_option maxHeartbeats 8000000 in
theorem e3 (l : Loan) (d : Int) (hd : DayOk l.dues) : O 3 [l.v, .i .i64 d] = some (.b true) := by
  refine orun (fc := code3) rfl rfl rfl ?_
  have h7 := e7 l
  cases hf : fewB l with
  | false => rw [hf] at h7; simp [code3, h7, live]
  | true =>
    rw [hf] at h7
    obtain ⟨h1, h2⟩ := not_few hf
    obtain ⟨n, h8⟩ := x8 l h1 hd
    by_cases hn : n = 0
    · subst hn
      have h10 := e10 l d h1 h2
      have h11 := e11 l d h1 h2 hd
      have hs := few_written h1 h2
      have hs0 := no_same
      simp only [Loan.v, encL_nil] at hs0
      unfold writeV at h10 h11
      cases hm : mayWrite l d with
      | true =>
        rw [if_pos hm] at h10 h11
        generalize hx : written l = x at h10 h11 hs
        simp [code3, h7, h8, h10, h11, hs, live]
      | false =>
        rw [if_neg (by simp [hm])] at h10 h11
        simp [code3, h7, h8, h10, h11, hs0, live]
    · simp [code3, h7, h8, hn, live]
set_option maxHeartbeats 8000000 in
theorem e4 (l : Loan) (n d : Int) : O 4 [l.v, .i .i64 n, .i .i64 d] = some (.b true) := by
  refine orun (fc := code4) rfl rfl rfl ?_
  have h7 := e7 l
  cases hf : fewB l with
  | false => rw [hf] at h7; simp [code4, h7, live]
  | true =>
    rw [hf] at h7
    obtain ⟨h1, h2⟩ := not_few hf
    have h13 := e13 l n d h1 h2
    have h14 := e14 l n d h1 h2
    have hs := few_recovered n h1 h2
    have hs0 := no_same
    simp only [Loan.v, encL_nil] at hs0
    unfold recV at h13 h14
    by_cases c1 : l.loss < 0
    · simp [code4, h7, c1, live]
    · by_cases c2 : 1000000000000 < l.loss
      · simp [code4, h7, c1, c2, live]
      · by_cases c3 : l.recovered < 0
        · simp [code4, h7, c1, c2, c3, live]
        · by_cases c4 : 1000000000000 < l.recovered
          · simp [code4, h7, c1, c2, c3, c4, live]
          · by_cases hm : recE l n d = 0
            · rw [if_pos hm] at h13 h14
              generalize hx : recovered l n = x at h13 h14 hs
              simp [code4, h7, c1, c2, c3, c4, h13, h14, hs, live]
            · rw [if_neg hm] at h13 h14
              simp [code4, h7, c1, c2, c3, c4, h13, h14, hs0, live]
open Classical in
noncomputable def badLoan (l : List Loan) (i : Nat) : Option Unit := match l[i]? with
  | some x => if fewB x = true ∧ O 8 [x.v] = some (.i .i64 0) then none else some ()
  | none => none
theorem l5 (l : List Loan) (h : l.length ≤ 20) (hd : DaysOk l) : loopK O [0, 3] body5_1 [(0, .l (encL' l)), (3, .i .i64 0)] = some (optE (fun _ => (.r, [(2, .b true)])) (.e 0, [(0, .l (encL' l))]) ((List.range l.length).findSome? (badLoan l))) := by
  have := loopK_code (o := O) (kin := [0, 3]) (c := body5_1) (fun i => [(0, .l (encL' l)), (3, .i .i64 i)]) l.length (badLoan l) (fun _ => (.r, [(2, .b true)])) (.e 0, [(0, .l (encL' l))]) (by simp) (by simp) (fun i hi => by
    have hw := wrap_i64 (i + 1) (by omega)
    have h7 := e7 l[i]
    have hdi := hd _ (List.getElem_mem hi)
    cases hf : fewB l[i] with
    | false => rw [hf] at h7; simp [body5_1, hi, badLoan, hf, h7, live]
    | true =>
      rw [hf] at h7
      obtain ⟨h1, h2⟩ := not_few hf
      obtain ⟨n, h8⟩ := x8 l[i] h1 hdi
      by_cases hn : n = 0
      · subst hn
        simp [body5_1, hi, hw, badLoan, hf, h7, h8]
      · simp [body5_1, hi, badLoan, hf, h7, h8, hn, live]) (by simp [body5_1]) (by simp)
  exact this
theorem e5 (l : List Loan) (hd : DaysOk l) : O 5 [.l (encL' l)] = some (.b true) := by
  refine orun (fc := code5) rfl rfl rfl ?_
  by_cases hlen : l.length ≤ 20
  · have hlen' : ¬ (20 : Int) < (l.length : Int) := by omega
    have hl := l5 l hlen hd
    cases hq : (List.range l.length).findSome? (badLoan l) <;> rw [hq] at hl
    · have hf : Few l := fun x hx => by
        obtain ⟨i, hi, rfl⟩ := List.getElem_of_mem hx
        have := range_find_none.1 hq i hi
        simp only [badLoan, List.getElem?_eq_getElem hi] at this
        split at this
        · rename_i hc; exact not_few hc.1
        · cases this
      have h15 := e15 l hlen hf
      have h16 := e16 l hlen hf hd
      simp [code5, exec_loopK, hl, hlen', h15, h16, live]
    · simp [code5, exec_loopK, hl, hlen']
  · have hlen' : (20 : Int) < (l.length : Int) := by omega
    simp [code5, hlen', live]
end Go.Proofs.YtjbnkdlklibomaaDoor
