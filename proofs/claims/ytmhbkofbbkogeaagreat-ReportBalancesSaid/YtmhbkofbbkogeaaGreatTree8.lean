/-
  The check of a product answers.
-/
import Derived.Test.YtmhbkofbbkogeaaGreatTree6
import Derived.Test.YtmhbkofbbkogeaaGreatSpec3
namespace Go.Proofs.YtmhbkofbbkogeaaGreat
open Go.VM
variable {X : Orc}
theorem okX_65 {ys : List V} (h : exT 102 ys) : exT 65 ys := exT_le (by omega) h
theorem l13a (p : Product) (hf : ∀ f ∈ p.fees, f.okX) (h4 : p.fees.length ≤ 4) : ∃ r, loopK (O X) [3, 14] body13_1 [(3, .bx p.cells), (14, .i .i64 0)] = some r ∧ ((∃ n, r = (.r, [(6, .i .i64 n)])) ∨ r = (.e 0, [(3, .bx p.cells)])) := by
  have := loopK_tot (o := O X) (kin := [3, 14]) (c := body13_1) (fun i => [(3, .bx p.cells), (14, .i .i64 (i : Int))]) p.fees.length (fun r => (∃ n, r = (.r, [(6, .i .i64 n)])) ∨ r = (.e 0, [(3, .bx p.cells)])) (by simp) (fun i hi => by
    have hw := wrap_i64 (i + 1) (by omega)
    have hx := hf _ (List.getElem_mem hi)
    obtain ⟨n, hn⟩ := t42 (X := X) p.fees[i] (okX_65 hx.1) (okX_65 hx.2)
    by_cases h0 : n = 0 <;> simp [-Prod.exists, body13_1, hi, hw, hn, h0]) (by simp [body13_1])
  simpa using this
theorem l13b (p : Product) (hf : ∀ f ∈ p.rules, f.okX) (h4 : p.rules.length ≤ 4) : ∃ r, loopK (O X) [3, 16] body13_2 [(3, .bx p.cells), (16, .i .i64 0)] = some r ∧ ((∃ n, r = (.r, [(6, .i .i64 n)])) ∨ r = (.e 2, [])) := by
  have := loopK_tot (o := O X) (kin := [3, 16]) (c := body13_2) (fun i => [(3, .bx p.cells), (16, .i .i64 (i : Int))]) p.rules.length (fun r => (∃ n, r = (.r, [(6, .i .i64 n)])) ∨ r = (.e 2, [])) (by simp) (fun i hi => by
    have hw := wrap_i64 (i + 1) (by omega)
    have hx := hf _ (List.getElem_mem hi)
    obtain ⟨n, hn⟩ := t43 (X := X) p.rules[i] (okX_65 hx)
    by_cases h0 : n = 0 <;> simp [-Prod.exists, body13_2, hi, hw, hn, h0]) (by simp [body13_2])
  simpa using this
theorem cV_ex (q : Option Currency) : ∃ (c : Currency) (t : Bool), cV q = .t [c.v, .b t] := by
  cases q with
  | none => exact ⟨c0, false, rfl⟩
  | some c => exact ⟨c, true, rfl⟩
/-- The test of the months between two days. -/
def reg13 : C := (.q [(11, (.ite (.ite (.ite (.op (.bin .eql) [(.op (.ld 1 false) [(.op (.fa 4 1) [(.sl 3)])]), (.k (.i .i64 1))]) (.k (.b true)) (.op (.bin .eql) [(.op (.ld 1 false) [(.op (.fa 4 1) [(.sl 3)])]), (.k (.i .i64 3))])) (.k (.b true)) (.op (.bin .eql) [(.op (.ld 1 false) [(.op (.fa 4 1) [(.sl 3)])]), (.k (.i .i64 6))])) (.k (.b true)) (.op (.bin .eql) [(.op (.ld 1 false) [(.op (.fa 4 1) [(.sl 3)])]), (.k (.i .i64 12))])))])
def code13' : FCode := ⟨3, [.tmp 6],
 (.seq (.s [.box 3 (.t 0), .as 6 (.c (.i .i64 0))] [])
 (.seq (.seq (.q [(21, (.op (.un .not) [(.op (.call false 38) [(.op (.ld 1 false) [(.op (.fa 0 1) [(.sl 3)])])])]))])
 (.cond (.sl 21) (.seq (.q [(6, (.k (.i .i64 4)))])
 (.ret [6])) .skip))
 (.seq (.seq (.s [.mv 23 (.t 1), .fa 24 1 1 (.t 3), .q 25 (.ld 1 false) [(.t 24)], .call (some 26) 39 [(.t 23), (.t 25)], .mv 22 (.t 26), .ext 27 0 22, .ext 28 1 22, .alo 7 [(.s []), (.i .i64 0)], .sto 2 (.t 7) (.t 27), .as 8 (.t 28)] [23, 24, 25, 26, 22, 27, 28, 7])
 (.seq (.q [(30, (.op (.un .not) [(.sl 8)]))])
 (.cond (.sl 30) (.seq (.q [(6, (.k (.i .i64 14)))])
 (.ret [6])) .skip)))
 (.seq (.seq (.s [.mv 32 (.t 2), .fa 33 2 1 (.t 3), .q 34 (.ld 1 false) [(.t 33)], .call (some 35) 40 [(.t 32), (.t 34)], .mv 31 (.t 35), .ext 36 0 31, .ext 37 1 31, .alo 9 [(.s []), (.l []), (.l [])], .sto 3 (.t 9) (.t 36), .as 10 (.t 37)] [32, 33, 34, 35, 31, 36, 37, 9])
 (.seq (.q [(39, (.op (.un .not) [(.sl 10)]))])
 (.cond (.sl 39) (.seq (.q [(6, (.k (.i .i64 11)))])
 (.ret [6])) .skip)))
 (.seq reg13
 (.seq (.seq (.q [(85, (.ite (.ite (.ite (.ite (.ite (.op (.un .not) [(.op (.call false 37) [(.op (.ld 1 false) [(.op (.fa 3 1) [(.sl 3)])])])]) (.k (.b true)) (.op (.un .not) [(.sl 11)])) (.k (.b true)) (.op (.bin .lss) [(.op (.ld 1 false) [(.op (.fa 5 1) [(.sl 3)])]), (.k (.i .i64 0))])) (.k (.b true)) (.op (.bin .gtr) [(.op (.ld 1 false) [(.op (.fa 5 1) [(.sl 3)])]), (.k (.i .i64 1000000000000))])) (.k (.b true)) (.op (.bin .lss) [(.op (.ld 1 false) [(.op (.fa 6 1) [(.sl 3)])]), (.k (.i .i64 0))])) (.k (.b true)) (.op (.bin .gtr) [(.op (.ld 1 false) [(.op (.fa 6 1) [(.sl 3)])]), (.k (.i .i64 1000000))])))])
 (.cond (.sl 85) (.seq (.q [(6, (.k (.i .i64 1)))])
 (.ret [6])) .skip))
 (.seq (.seq (.q [(12, (.op (.call false 41) [(.op (.ld 5 true) [(.op (.fa 7 5) [(.sl 3)])])]))])
 (.seq (.q [(90, (.op (.bin .neq) [(.sl 12), (.k (.i .i64 0))]))])
 (.cond (.sl 90) (.seq (.q [(6, (.sl 12))])
 (.ret [6])) .skip)))
 (.seq (.seq (.q [(13, (.op (.call false 41) [(.op (.ld 5 true) [(.op (.fa 12 5) [(.sl 3)])])]))])
 (.seq (.q [(96, (.op (.bin .neq) [(.sl 13), (.k (.i .i64 0))]))])
 (.cond (.sl 96) (.seq (.q [(6, (.sl 13))])
 (.ret [6])) .skip)))
 (.seq (.seq (.q [(107, (.ite (.op (.bin .gtr) [(.op .len [(.op (.ld 1 false) [(.op (.fa 17 1) [(.sl 3)])])]), (.k (.i .i64 4))]) (.k (.b true)) (.op (.bin .gtr) [(.op .len [(.op (.ld 1 false) [(.op (.fa 18 1) [(.sl 3)])])]), (.k (.i .i64 4))])))])
 (.cond (.sl 107) (.seq (.q [(6, (.k (.i .i64 5)))])
 (.ret [6])) .skip))
 (.seq (.seq (.q [(14, (.k (.i .i64 0)))])
 (.blk 0 (.loop [3, 14] body13_1)))
 (.seq (.seq (.q [(16, (.k (.i .i64 0)))])
 (.blk 2 (.loop [3, 16] body13_2)))
 (.seq (.q [(6, (.k (.i .i64 0)))])
 (.ret [6])))))))))))))⟩
theorem code13_eq : code13 = code13' := rfl
theorem reg13_run (p : Product) (u v w : V) : ∃ t : Bool, exec (O X) reg13 [(0, u), (1, v), (2, w), (3, .bx p.cells), (6, .i .i64 0), (8, .b true), (10, .b true), (21, .b false), (30, .b false), (39, .b false)] = some (.n, [(0, u), (1, v), (2, w), (3, .bx p.cells), (6, .i .i64 0), (8, .b true), (10, .b true), (11, .b t), (21, .b false), (30, .b false), (39, .b false)]) := by
  by_cases e1 : p.every = 1
  · exact ⟨true, by simp [reg13, e1]⟩
  by_cases e2 : p.every = 3
  · exact ⟨true, by simp [reg13, e2]⟩
  by_cases e3 : p.every = 6
  · exact ⟨true, by simp [reg13, e3]⟩
  exact ⟨decide (p.every = 12), by simp [reg13, e1, e2, e3]⟩
set_option maxHeartbeats 8000000 in
theorem t13 (p : Product) (cs : List Currency) (cl : List Calendar) (hc : cs.length ≤ 1000) (hcl : cl.length ≤ 1000) (hf : ∀ f ∈ p.fees, f.okX) (hr : ∀ f ∈ p.rules, f.okX) : ∃ n : Int, O X 13 [p.v, .l (encC cs), .l (encL Calendar.v cl)] = some (.i .i64 n) := by
  obtain ⟨t, ht⟩ := t38 (X := X) p.name
  have h39 := e39 (X := X) cs p.currency hc
  obtain ⟨c, u, hcu⟩ := cV_ex (findC cs p.currency)
  rw [hcu] at h39
  obtain ⟨d, v, h40⟩ := t40 (X := X) cl p.calendar hcl
  have h37 := o37 (X := X) p.from'
  generalize decide (0 ≤ p.from' ∧ p.from' ≤ 73048) = t37 at h37
  obtain ⟨n1, hn1⟩ := t41 (X := X) p.credit
  obtain ⟨n2, hn2⟩ := t41 (X := X) p.debit
  obtain ⟨ev, hev⟩ := reg13_run (X := X) p p.v (.l (encC cs)) (.l (encL Calendar.v cl))
  have l1 := fun h4 => l13a (X := X) p hf h4
  have l2 := fun h4 => l13b (X := X) p hr h4
  have : ∃ y, O X 13 [p.v, .l (encC cs), .l (encL Calendar.v cl)] = some y ∧ I1 y := by
    refine orunE (fc := code13') rfl rfl rfl ?_
    cases t with
    | false => simp [code13', ht]
    | true =>
    cases u with
    | false => simp [code13', ht, h39]
    | true =>
    cases v with
    | false => simp [code13', ht, h39, h40]
    | true =>
    cases t37 with
    | false => simp [code13', ht, h39, h40, hev, h37]
    | true =>
    cases ev with
    | false => simp [code13', ht, h39, h40, hev, h37]
    | true =>
    by_cases c1 : p.overdraft < 0
    · simp [code13', ht, h39, h40, hev, h37, c1]
    by_cases c2 : 1000000000000 < p.overdraft
    · simp [code13', ht, h39, h40, hev, h37, c1, c2]
    by_cases c3 : p.taxPpm < 0
    · simp [code13', ht, h39, h40, hev, h37, c1, c2, c3]
    by_cases c4 : 1000000 < p.taxPpm
    · simp [code13', ht, h39, h40, hev, h37, c1, c2, c3, c4]
    by_cases c5 : n1 = 0
    rotate_left
    · simp [code13', ht, h39, h40, hev, h37, c1, c2, c3, c4, hn1, c5]
    by_cases c6 : n2 = 0
    rotate_left
    · simp [code13', ht, h39, h40, hev, h37, c1, c2, c3, c4, hn1, hn2, c5, c6]
    by_cases c7 : 4 < p.fees.length
    · have c7' : (4 : Int) < (p.fees.length : Int) := by omega
      simp [code13', ht, h39, h40, hev, h37, c1, c2, c3, c4, hn1, hn2, c5, c6, c7']
    have c7' : ¬ (4 : Int) < (p.fees.length : Int) := by omega
    by_cases c8 : 4 < p.rules.length
    · have c8' : (4 : Int) < (p.rules.length : Int) := by omega
      simp [code13', ht, h39, h40, hev, h37, c1, c2, c3, c4, hn1, hn2, c5, c6, c7', c8']
    have c8' : ¬ (4 : Int) < (p.rules.length : Int) := by omega
    obtain ⟨s1, hl1, hs1⟩ := l1 (by omega)
    obtain ⟨s2, hl2, hs2⟩ := l2 (by omega)
    rcases hs1 with ⟨n, rfl⟩ | rfl
    · simp [code13', exec_loopK, ht, h39, h40, hev, h37, c1, c2, c3, c4, hn1, hn2, c5, c6, c7', c8', hl1]
    · rcases hs2 with ⟨n, rfl⟩ | rfl <;> simp [code13', exec_loopK, ht, h39, h40, hev, h37, c1, c2, c3, c4, hn1, hn2, c5, c6, c7', c8', hl1, hl2]
  obtain ⟨y, h, n, rfl⟩ := this
  exact ⟨n, h⟩
end Go.Proofs.YtmhbkofbbkogeaaGreat
