/-
  What the functions that the laws reach compute: checks, copies, places.
-/
import Derived.Test.YthonmlhljdhlbaaSpec2
namespace Go.Proofs.Ythonmlhljdhlbaa
open Go.VM
/-- What is wrong with request i. -/
def cd (l : List Request) (i : Nat) : Option Int := match l[i]? with
  | some r => if bad1 r = true then some 1 else if bad2 r = true then some 4 else if 0 < i ∧ r.id ≤ (l[i - 1]?.map Request.id).getD 0 then some 10 else if r.state = 2 ∧ r.checker = r.maker then some 22 else none
  | none => none
def chk (l : List Request) : Int := if 64 < l.length then 5 else optE (fun n => n) 0 ((List.range l.length).findSome? (cd l))
theorem l10 (l : List Request) (h : l.length ≤ 64) : loopK O [0, 9, 10, 11] body10_1 [(0, .l (enc l)), (9, .l (enc l)), (10, .i .i64 l.length), (11, .i .i64 0)] = some (optE (fun n => (.r, [(2, .i .i64 n)])) (.e 0, []) ((List.range l.length).findSome? (cd l))) := by
  have := loopK_code (o := O) (kin := [0, 9, 10, 11]) (c := body10_1) (fun i => [(0, .l (enc l)), (9, .l (enc l)), (10, .i .i64 l.length), (11, .i .i64 i)]) l.length (cd l) (fun n => (.r, [(2, .i .i64 n)])) (.e 0, []) (by simp) (by simp) (fun i hi => by
    have hw := wrap_i64 (i + 1) (by omega)
    cases b1 : bad1 l[i] with
    | true => simp [body10_1, hi, cd, b1, one]
    | false =>
      cases b2 : bad2 l[i] with
      | true => simp [body10_1, hi, cd, b1, b2, one]
      | false =>
        cases i with
        | zero => simp at hw; simp [body10_1, hi, hw, cd, b1, b2, one]
        | succ j =>
          have hj : j < l.length := by omega
          have hw0 := wrap_i64 (j : Int) (by omega)
          have hw2 := wrap_i64 ((j : Int) + 1 + 1) (by omega)
          have f1 : (j : Int) + 1 < (l.length : Int) := by omega
          simp [body10_1, hi, hj, hw0, hw2, f1, cd, b1, b2, one]) (by simp [body10_1]) (by simp)
  exact this
theorem e10 (l : List Request) : O 10 [.l (enc l)] = some (.i .i64 (chk l)) := by
  refine orun (fc := code10) rfl rfl rfl ?_
  by_cases h : 64 < l.length
  · have h2 : (64 : Int) < (l.length : Int) := by omega
    simp [code10, chk, h, h2]
  · have h2 : ¬ ((64 : Int) < (l.length : Int)) := by omega
    have hl := l10 l (by omega)
    cases hq : (List.range l.length).findSome? (cd l) <;> rw [hq] at hl <;> simp [code10, exec_loopK, chk, h, h2, hl, hq]
theorem l11 (l : List Request) (h : l.length ≤ 64) : loopK O [0, 3] body11_1 [(0, .l (enc l)), (3, .i .i64 0)] = some (optE (fun n => (.r, [(2, .i .i64 n)])) (.e 0, []) ((List.range l.length).findSome? (cd l))) := by
  have := loopK_code (o := O) (kin := [0, 3]) (c := body11_1) (fun i => [(0, .l (enc l)), (3, .i .i64 i)]) l.length (cd l) (fun n => (.r, [(2, .i .i64 n)])) (.e 0, []) (by simp) (by simp) (fun i hi => by
    have hw := wrap_i64 (i + 1) (by omega)
    have h1 : bad1 l[i] = (((((decide (l[i].id < 1) || !validD l[i].day) || !validD l[i].until') || decide (l[i].until' < l[i].day)) || decide (l[i].state < 1)) || decide (4 < l[i].state)) := rfl
    have h2 : bad2 l[i] = ((!nameB l[i].maker || (decided l[i].state && !nameB l[i].checker)) || (!decided l[i].state && !decide (l[i].checker = []))) := rfl
    cases b1 : bad1 l[i] with
    | true => rw [b1] at h1; simp [body11_1, hi, cd, b1, ← h1]
    | false =>
      cases b2 : bad2 l[i] with
      | true => rw [b1] at h1; rw [b2] at h2; simp [body11_1, hi, cd, b1, b2, ← h1, ← h2]
      | false =>
        rw [b1] at h1; rw [b2] at h2
        cases i with
        | zero => simp at hw; simp [body11_1, hi, hw, cd, b1, b2, ← h1, ← h2]
        | succ j =>
          have hj : j < l.length := by omega
          have hw0 := wrap_i64 (j : Int) (by omega)
          have hw2 := wrap_i64 ((j : Int) + 1 + 1) (by omega)
          have f1 : (j : Int) + 1 < (l.length : Int) := by omega
          simp [body11_1, hi, hj, hw0, hw2, f1, cd, b1, b2, ← h1, ← h2]) (by simp [body11_1]) (by simp)
  exact this
theorem e11 (l : List Request) : O 11 [.l (enc l)] = some (.i .i64 (chk l)) := by
  refine orun (fc := code11) rfl rfl rfl ?_
  by_cases h : 64 < l.length
  · have h2 : (64 : Int) < (l.length : Int) := by omega
    simp [code11, chk, h, h2]
  · have h2 : ¬ ((64 : Int) < (l.length : Int)) := by omega
    have hl := l11 l (by omega)
    cases hq : (List.range l.length).findSome? (cd l) <;> rw [hq] at hl <;> simp [code11, exec_loopK, chk, h, h2, hl, hq]

/-! ### Great lists -/
def big (r : Request) : Bool := ((((((((decide ((100 : Int) < (r.maker.length : Int)) || decide ((100 : Int) < (r.checker.length : Int))) || decide ((100 : Int) < (r.command.user.length : Int))) || decide ((100 : Int) < (r.command.key.length : Int))) || decide ((3000 : Int) < (r.command.text.length : Int))) || decide ((100 : Int) < (r.command.crashes.length : Int))) || decide ((100 : Int) < (r.command.message.sender.length : Int))) || decide ((100 : Int) < (r.command.message.text.length : Int))) || decide ((100 : Int) < (r.command.terms.calendar.length : Int))) || decide ((100 : Int) < (r.command.terms.currency.length : Int))
def bigAt (l : List Request) (i : Nat) : Option Unit := match l[i]? with
  | some r => if big r = true then some () else none
  | none => none
def great (l : List Request) : Bool := optE (fun _ => true) (decide ((100 : Int) < (l.length : Int))) ((List.range (min l.length 101)).findSome? (bigAt l))
theorem l9 (l : List Request) : loopK O [0, 3] body9_1 [(0, .l (enc l)), (3, .i .i64 0)] = some (optE (fun _ => (.r, [(2, .b true)])) (.e 0, [(0, .l (enc l))]) ((List.range (min l.length 101)).findSome? (bigAt l))) := by
  have := loopK_code (o := O) (kin := [0, 3]) (c := body9_1) (fun i => [(0, .l (enc l)), (3, .i .i64 i)]) (min l.length 101) (bigAt l) (fun _ => (.r, [(2, .b true)])) (.e 0, [(0, .l (enc l))]) (by simp) (by simp) (fun i hi => by
    have hw := wrap_i64 (i + 1) (by omega)
    have hi' : i < l.length := by omega
    have hi2 : (i : Int) < (l.length : Int) := by omega
    have hi3 : (i : Int) ≤ 100 := by omega
    have hb : big l[i] = (((((((((decide ((100 : Int) < (l[i].maker.length : Int)) || decide ((100 : Int) < (l[i].checker.length : Int))) || decide ((100 : Int) < (l[i].command.user.length : Int))) || decide ((100 : Int) < (l[i].command.key.length : Int))) || decide ((3000 : Int) < (l[i].command.text.length : Int))) || decide ((100 : Int) < (l[i].command.crashes.length : Int))) || decide ((100 : Int) < (l[i].command.message.sender.length : Int))) || decide ((100 : Int) < (l[i].command.message.text.length : Int))) || decide ((100 : Int) < (l[i].command.terms.calendar.length : Int))) || decide ((100 : Int) < (l[i].command.terms.currency.length : Int))) := rfl
    cases hbb : big l[i] <;> rw [hbb] at hb <;> simp [body9_1, Command.cells, hi', hi2, hi3, hw, bigAt, hbb, ← hb]) (by
    have : ¬ ((((min l.length 101 : Nat) : Int) < (l.length : Int)) ∧ ((min l.length 101 : Nat) : Int) ≤ 100) := by omega
    generalize ((min l.length 101 : Nat) : Int) = k at this
    simp [body9_1, this]) (by simp)
  exact this
@[simp] theorem e9 (l : List Request) : O 9 [.l (enc l)] = some (.b (great l)) := by
  refine orun (fc := code9) rfl rfl rfl ?_
  have hl := l9 l
  cases hq : (List.range (min l.length 101)).findSome? (bigAt l) <;> rw [hq] at hl <;> simp [code9, exec_loopK, great, hl, hq]
theorem not_great {l : List Request} (h : great l = false) : l.length ≤ 100 ∧ Few l := by
  unfold great at h
  cases hq : (List.range (min l.length 101)).findSome? (bigAt l) with
  | some u => rw [hq] at h; simp at h
  | none =>
    rw [hq] at h
    simp at h
    have hlen : l.length ≤ 100 := by omega
    refine ⟨hlen, fun r hr => ?_⟩
    obtain ⟨i, hi, rfl⟩ := List.getElem_of_mem hr
    have := range_find_none.1 hq i (by omega)
    simp [bigAt, hi, big] at this
    unfold few
    omega
end Go.Proofs.Ythonmlhljdhlbaa
