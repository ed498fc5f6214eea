/-
  Check has a value; the laws.
-/
import Derived.Test.YtjbnkdlklibomaaDoorLaws
set_option linter.all false
namespace Go.Proofs.YtjbnkdlklibomaaDoor
open Go.VM
section
variable {o : Orc} {rs : List RV} {a b c : C} {env e' : Env} {Q : V → Prop}
theorem ex_seq (h1 : exec o a env = some (.n, e')) (h2 : ∃ y, retE rs (exec o b e') = some y ∧ Q y) : ∃ y, retE rs (exec o (.seq a b) env) = some y ∧ Q y := by
  simp only [exec, h1, Option.bind_some]
  exact h2
theorem ex_assoc (h : ∃ y, retE rs (exec o (.seq a (.seq b c)) env) = some y ∧ Q y) : ∃ y, retE rs (exec o (.seq (.seq a b) c) env) = some y ∧ Q y := by
  have : exec o (.seq (.seq a b) c) env = exec o (.seq a (.seq b c)) env := by
    simp only [exec]
    cases exec o a env with
    | none => rfl
    | some p =>
      obtain ⟨e, env'⟩ := p
      cases e <;> simp [exec]
  rw [this]; exact h
theorem ex_q {n : Nat} {x : X} (h : ∃ t, evalX o env x = some (.b t)) (hb : ∀ t, ∃ y, retE rs (exec o b (put' n (.b t) env)) = some y ∧ Q y) : ∃ y, retE rs (exec o (.seq (.q [(n, x)]) b) env) = some y ∧ Q y := by
  obtain ⟨t, ht⟩ := h
  refine ex_seq (e' := put' n (.b t) env) ?_ (hb t)
  simp [exec, putsQ, ht, V.flat1, V.flat]
end
def dueBad (l : List Due) (i : Nat) : Option Unit := match l[i]? with
  | some d => if (validD d.day && (within d.principal 1000000000000 && within d.interest 1000000000000)) = true then none else some ()
  | none => none
theorem l18 (l : Loan) (h : l.dues.length ≤ 40) : loopK O [1, 3] body18_1 [(1, .bx l.cells), (3, .i .i64 0)] = some (optE (fun _ => (.r, [(2, .b false)])) (.e 0, []) ((List.range l.dues.length).findSome? (dueBad l.dues))) := by
  have := loopK_code (o := O) (kin := [1, 3]) (c := body18_1) (fun i => [(1, .bx l.cells), (3, .i .i64 i)]) l.dues.length (dueBad l.dues) (fun _ => (.r, [(2, .b false)])) (.e 0, []) (by simp) (by simp) (fun i hi => by
    have hw := wrap_i64 (i + 1) (by omega)
    cases h1 : validD l.dues[i].day <;> cases h2 : within l.dues[i].principal 1000000000000 <;> cases h3 : within l.dues[i].interest 1000000000000 <;> simp [body18_1, hi, hw, dueBad, h1, h2, h3]) (by simp [body18_1]) (by simp)
  exact this
def isB : V → Prop := fun y => ∃ b, y = .b b
def isI : V → Prop := fun y => ∃ n, y = .i .i64 n
theorem x18 (l : Loan) (h : l.dues.length ≤ 40) : ∃ b, O 18 [l.v] = some (.b b) := by
  have H : ∃ y, retE code18.res (exec O code18.body (args0 0 [l.v])) = some y ∧ isB y := by
    simp only [code18]
    refine ex_seq (by simp; rfl) ?_
    refine ex_assoc (ex_q ⟨_, by simp; rfl⟩ fun t => ?_)
    cases t with
    | true => exact ⟨.b false, by simp, _, rfl⟩
    | false =>
      refine ex_seq (by simp; rfl) ?_
      refine ex_assoc (ex_q ⟨_, by simp; rfl⟩ fun t => ?_)
      cases t with
      | true => exact ⟨.b false, by simp, _, rfl⟩
      | false =>
        refine ex_seq (by simp; rfl) ?_
        refine ex_assoc (ex_q ⟨_, by simp; rfl⟩ fun t => ?_)
        cases t with
        | true => exact ⟨.b false, by simp, _, rfl⟩
        | false =>
          have hl := l18 l h
          cases hq : (List.range l.dues.length).findSome? (dueBad l.dues) <;> rw [hq] at hl
          · exact ⟨.b true, by simp [exec_loopK, hl], _, rfl⟩
          · exact ⟨.b false, by simp [exec_loopK, hl], _, rfl⟩
  obtain ⟨y, hy, b, rfl⟩ := H
  exact ⟨b, orun (fc := code18) rfl rfl rfl hy⟩
def ordBad (l : List Due) (i : Nat) : Option Unit := match i with
  | 0 => if (l[0]?.map Due.no) = some 1 then none else some ()
  | i + 1 => if (l[i + 1]?.map Due.no) = some ((i + 2 : Nat) : Int) ∧ ¬ ((l[i + 1]?.map Due.day).getD 0 < (l[i]?.map Due.day).getD 0) then none else some ()
theorem l8 (l : Loan) (h : l.dues.length ≤ 40) : loopK O [1, 3] body8_1 [(1, .bx l.cells), (3, .i .i64 0)] = some (optE (fun _ => (.r, [(2, .i .i64 10)])) (.e 0, [(1, .bx l.cells)]) ((List.range l.dues.length).findSome? (ordBad l.dues))) := by
  have := loopK_code (o := O) (kin := [1, 3]) (c := body8_1) (fun i => [(1, .bx l.cells), (3, .i .i64 i)]) l.dues.length (ordBad l.dues) (fun _ => (.r, [(2, .i .i64 10)])) (.e 0, [(1, .bx l.cells)]) (by simp) (by simp) (fun i hi => by
    have hw := wrap_i64 (i + 1) (by omega)
    match i, hi, hw with
    | 0, hi, hw =>
      have hw' : IntKind.i64.wrap 1 = 1 := rfl
      by_cases h1 : l.dues[0].no = 1 <;> simp [body8_1, hi, hw', ordBad, h1]
    | i + 1, hi, hw =>
      have hw2 := wrap_i64 i (by omega)
      have hi' : i < l.dues.length := by omega
      have e2 : ((i : Int) + 1) - 1 = i := by omega
      have e4 : (i : Int) + 1 + 1 = (i : Int) + 2 := by omega
      have hlt : (i : Int) + 1 < (l.dues.length : Int) := by omega
      have hw3 : IntKind.i64.wrap ((i : Int) + 2) = (i : Int) + 2 := by
        have := wrap_i64 (i + 2) (by omega)
        simpa using this
      by_cases h1 : l.dues[i + 1].no = (i : Int) + 2
      · by_cases h2 : l.dues[i + 1].day < l.dues[i].day
        · have h2' : ¬ l.dues[i].day ≤ l.dues[i + 1].day := by omega
          simp [body8_1, hi, hi', hw2, ordBad, h1, h2, h2', e2, e4, hlt, hw3]
        · have h2' : l.dues[i].day ≤ l.dues[i + 1].day := by omega
          simp [body8_1, hi, hi', hw2, ordBad, h1, h2, h2', e2, e4, hlt, hw3]
      · simp [body8_1, hi, hi', hw2, ordBad, h1, e2, e4, hlt, hw3]) (by simp [body8_1]) (by simp)
  exact this
theorem x8 (l : Loan) (h : l.dues.length ≤ 40) (hd : DayOk l.dues) : ∃ n, O 8 [l.v] = some (.i .i64 n) := by
  obtain ⟨b18, h18⟩ := x18 l h
  have h19 := e19 l h hd
  have h20 := e20 l h hd
  have h21 := e21 l h hd
  have H : ∃ y, retE code8.res (exec O code8.body (args0 0 [l.v])) = some y ∧ isI y := by
    simp only [code8]
    refine ex_seq (by simp; rfl) ?_
    refine ex_assoc (ex_q ⟨!b18, by simp [h18]⟩ fun t => ?_)
    cases t with
    | true => exact ⟨.i .i64 1, by simp, _, rfl⟩
    | false =>
      refine ex_seq (by simp; rfl) ?_
      have hl := l8 l h
      cases hq : (List.range l.dues.length).findSome? (ordBad l.dues) <;> rw [hq] at hl
      · refine ex_seq (by simp [exec_loopK, hl]; rfl) ?_
        refine ex_assoc (ex_q ⟨_, by simp [h19, h20]; rfl⟩ fun t => ?_)
        cases t with
        | true => exact ⟨.i .i64 25, by simp, _, rfl⟩
        | false =>
          refine ex_seq (by simp; rfl) ?_
          refine ex_assoc (ex_q ⟨_, by simp [h19, h21]; rfl⟩ fun t => ?_)
          cases t with
          | true => exact ⟨.i .i64 25, by simp, _, rfl⟩
          | false =>
            refine ex_seq (by simp; rfl) ?_
            refine ex_assoc (ex_q ⟨_, by simp; rfl⟩ fun t => ?_)
            cases t with
            | true => exact ⟨.i .i64 25, by simp, _, rfl⟩
            | false => exact ⟨.i .i64 0, by simp, _, rfl⟩
      · exact ⟨.i .i64 10, by simp [exec_loopK, hl], _, rfl⟩
  obtain ⟨y, hy, n, rfl⟩ := H
  exact ⟨n, orun (fc := code8) rfl rfl rfl hy⟩
end Go.Proofs.YtjbnkdlklibomaaDoor
