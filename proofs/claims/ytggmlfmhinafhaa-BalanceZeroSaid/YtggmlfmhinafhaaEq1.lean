/-
  What the reference computes: sums; equal lists; small journals.
-/
import Derived.Test.YtggmlfmhinafhaaOrc
import Derived.Test.YtggmlfmhinafhaaVmN
namespace Go.Proofs.Ytggmlfmhinafhaa
open Go.VM Go.RowKit
theorem orun {X : Orc} {f : Nat} {fc : FCode} (ht : tab f = some fc) {args : List V} {y : V} (hl : args.length = fc.np) (ha : args.all V.arg = true) (h : retE fc.res (exec (O X) fc.body (args0 0 args)) = some y) : O X f args = some y := VM.run ht hl ha h
theorem ft_succ {α β : Type} (f : β → α → β) (b : β) (l : List α) {i : Nat} (h : i < l.length) : (l.take (i + 1)).foldl f b = f ((l.take i).foldl f b) l[i] := by
  rw [List.take_succ_eq_append_getElem h, List.foldl_append]; rfl
theorem fs_none (n : Nat) : (List.range n).findSome? (fun _ => (none : Option Unit)) = none := List.findSome?_eq_none_iff.2 fun _ _ => rfl
abbrev legs (l : List Leg) : List V := encL Leg.v l
section
variable {X : Orc}
/-! ### Small journals -/
def fewC (l : List Entry) (i : Nat) : Option Unit := match l[i]? with
  | some e => if 20 < e.legs.length then some () else none
  | none => none
def fewB (l : List Entry) : Bool := decide (l.length ≤ 100) && ((List.range l.length).findSome? (fewC l)).isNone
theorem l8 (l : List Entry) (h : l.length ≤ 100) : loopK (O X) [0, 3] body8_1 [(0, .l (ents l)), (3, .i .i64 0)] = some (optE (fun _ => (.r, [(2, .b false)])) (.e 0, []) ((List.range l.length).findSome? (fewC l))) := by
  have := loopK_code (o := O X) (kin := [0, 3]) (c := body8_1) (fun i => [(0, .l (ents l)), (3, .i .i64 i)]) l.length (fewC l) (fun _ => (.r, [(2, .b false)])) (.e 0, []) (by simp) (by simp) (fun i hi => by
    have hw := wrap_i64 (i + 1) (by omega)
    by_cases h : 20 < l[i].legs.length
    · have h' : (20 : Int) < (l[i].legs.length : Int) := by omega
      simp [body8_1, hi, fewC, h, h']
    · have h' : ¬ (20 : Int) < (l[i].legs.length : Int) := by omega
      simp [body8_1, hi, hw, fewC, h, h']) (by simp [body8_1]) (by simp)
  exact this
theorem o8 (l : List Entry) : O X 8 [.l (ents l)] = some (.b (fewB l)) := by
  refine orun (fc := code8) rfl rfl rfl ?_
  by_cases h : l.length ≤ 100
  · have hl := l8 (X := X) l h
    have h1 : ¬ (100 : Int) < (l.length : Int) := by omega
    cases hq : (List.range l.length).findSome? (fewC l) <;> rw [hq] at hl <;> simp [code8, exec_loopK, hl, fewB, hq, h1, h]
  · have h1 : (100 : Int) < (l.length : Int) := by omega
    simp [code8, fewB, h1, h]
theorem few_len {l : List Entry} (h : fewB l = true) : l.length ≤ 100 := by
  simp only [fewB, Bool.and_eq_true, decide_eq_true_eq] at h; exact h.1
theorem few_legs {l : List Entry} (h : fewB l = true) : ∀ e ∈ l, e.legs.length ≤ 20 := fun e he => by
  simp only [fewB, Bool.and_eq_true, decide_eq_true_eq, Option.isNone_iff_eq_none, List.findSome?_eq_none_iff] at h
  obtain ⟨i, hi⟩ := List.getElem?_of_mem he
  have := h.2 i (List.mem_range.2 (List.getElem?_eq_some_iff.1 hi).1)
  simp only [fewC, hi] at this
  split at this
  · cases this
  · omega
/-! ### What moved in an entry -/
def movS (a : Int) (n : Int) (x : Leg) : Int := if x.account = a then IntKind.i64.wrap (n - x.amount) else n
def movF (a : Int) (e : Entry) : Int := e.legs.foldl (movS a) 0
theorem l26 (e : Entry) (a : Int) (h : e.legs.length ≤ 4096) : loopK (O X) [1, 2, 5, 6] body26_1 [(1, .i .i64 a), (2, .bx e.cells), (5, .i .i64 0), (6, .i .i64 0)] = some (.e 0, [(5, .i .i64 (movF a e))]) := by
  have := loopK_code (o := O X) (kin := [1, 2, 5, 6]) (c := body26_1) (fun i => [(1, .i .i64 a), (2, .bx e.cells), (5, .i .i64 ((e.legs.take i).foldl (movS a) 0)), (6, .i .i64 i)]) e.legs.length (fun _ => (none : Option Unit)) (fun _ => (.r, [])) (.e 0, [(5, .i .i64 (movF a e))]) (by simp) (by simp) (fun i hi => by
    have hw := wrap_i64 (i + 1) (by omega)
    have hs := ft_succ (movS a) 0 e.legs hi
    rw [hs]
    generalize (e.legs.take i).foldl (movS a) 0 = n
    by_cases h : e.legs[i].account = a <;> simp [body26_1, hi, hw, h, movS]) (by simp [body26_1, movF]) (by simp)
  simpa [fs_none] using this
theorem o26 (e : Entry) (a : Int) (h : e.legs.length ≤ 4096) : O X 26 [e.v, .i .i64 a] = some (.i .i64 (movF a e)) := by
  refine orun (fc := code26) rfl rfl rfl ?_
  have hl := l26 (X := X) e a h
  simp [code26, exec_loopK, hl]
/-! ### Of -/
def rofS (a : Int) (n : Int) (e : Entry) : Int := IntKind.i64.wrap (n + movF a e)
def rofF (a : Int) (l : List Entry) : Int := l.foldl (rofS a) 0
theorem l13 (l : List Entry) (a : Int) (h : l.length ≤ 4096) (hl : ∀ e ∈ l, e.legs.length ≤ 4096) : loopK (O X) [0, 1, 5, 6] body13_1 [(0, .l (ents l)), (1, .i .i64 a), (5, .i .i64 0), (6, .i .i64 0)] = some (.e 0, [(5, .i .i64 (rofF a l))]) := by
  have := loopK_code (o := O X) (kin := [0, 1, 5, 6]) (c := body13_1) (fun i => [(0, .l (ents l)), (1, .i .i64 a), (5, .i .i64 ((l.take i).foldl (rofS a) 0)), (6, .i .i64 i)]) l.length (fun _ => (none : Option Unit)) (fun _ => (.r, [])) (.e 0, [(5, .i .i64 (rofF a l))]) (by simp) (by simp) (fun i hi => by
    have hw := wrap_i64 (i + 1) (by omega)
    have h26 := o26 (X := X) l[i] a (hl _ (List.getElem_mem hi))
    simp only [Entry.v] at h26
    rw [ft_succ (rofS a) 0 l hi]
    generalize (l.take i).foldl (rofS a) 0 = n
    simp [body13_1, hi, hw, h26, rofS]) (by simp [body13_1, rofF]) (by simp)
  simpa [fs_none] using this
theorem o13 (l : List Entry) (a : Int) (h : l.length ≤ 4096) (hl : ∀ e ∈ l, e.legs.length ≤ 4096) : O X 13 [.l (ents l), .i .i64 a] = some (.i .i64 (rofF a l)) := by
  refine orun (fc := code13) rfl rfl rfl ?_
  have hl := l13 (X := X) l a h hl
  simp [code13, exec_loopK, hl]
/-! ### At -/
def ratS (a bk vl : Int) (n : Int) (e : Entry) : Int := if e.booked ≤ bk ∧ e.value ≤ vl then IntKind.i64.wrap (n + movF a e) else n
def ratF (a bk vl : Int) (l : List Entry) : Int := l.foldl (ratS a bk vl) 0
theorem l15 (l : List Entry) (a bk vl : Int) (h : l.length ≤ 4096) (hl : ∀ e ∈ l, e.legs.length ≤ 4096) : loopK (O X) [0, 1, 2, 3, 9, 10] body15_1 [(0, .l (ents l)), (1, .i .i64 a), (2, .i .i64 bk), (3, .i .i64 vl), (9, .i .i64 0), (10, .i .i64 0)] = some (.e 0, [(9, .i .i64 (ratF a bk vl l))]) := by
  have := loopK_code (o := O X) (kin := [0, 1, 2, 3, 9, 10]) (c := body15_1) (fun i => [(0, .l (ents l)), (1, .i .i64 a), (2, .i .i64 bk), (3, .i .i64 vl), (9, .i .i64 ((l.take i).foldl (ratS a bk vl) 0)), (10, .i .i64 i)]) l.length (fun _ => (none : Option Unit)) (fun _ => (.r, [])) (.e 0, [(9, .i .i64 (ratF a bk vl l))]) (by simp) (by simp) (fun i hi => by
    have hw := wrap_i64 (i + 1) (by omega)
    have h26 := o26 (X := X) l[i] a (hl _ (List.getElem_mem hi))
    simp only [Entry.v] at h26
    rw [ft_succ (ratS a bk vl) 0 l hi]
    generalize (l.take i).foldl (ratS a bk vl) 0 = n
    by_cases h1 : l[i].booked ≤ bk <;> by_cases h2 : l[i].value ≤ vl <;> simp [body15_1, hi, hw, h26, ratS, h1, h2]) (by simp [body15_1, ratF]) (by simp)
  simpa [fs_none] using this
theorem o15 (l : List Entry) (a bk vl : Int) (h : l.length ≤ 4096) (hl : ∀ e ∈ l, e.legs.length ≤ 4096) : O X 15 [.l (ents l), .i .i64 a, .i .i64 bk, .i .i64 vl] = some (.i .i64 (ratF a bk vl l)) := by
  refine orun (fc := code15) rfl rfl rfl ?_
  have hl := l15 (X := X) l a bk vl h hl
  simp [code15, exec_loopK, hl]
/-! ### Turnover -/
def rtuL (a : Int) (s : Int × Int) (x : Leg) : Int × Int :=
  let s1 := if x.account = a ∧ 0 < x.amount then (IntKind.i64.wrap (s.1 + x.amount), s.2) else s
  if x.account = a ∧ x.amount < 0 then (s1.1, IntKind.i64.wrap (s1.2 - x.amount)) else s1
def rtuS (a fr to : Int) (s : Int × Int) (e : Entry) : Int × Int := if e.booked < fr ∨ to < e.booked then s else e.legs.foldl (rtuL a) s
def rtuF (a fr to : Int) (l : List Entry) : Int × Int := l.foldl (rtuS a fr to) (0, 0)
theorem l11a (l : List Entry) (a fr to : Int) (j : Nat) (hj : j < l.length) (s : Int × Int) (h : l[j].legs.length ≤ 4096) : loopK (O X) [0, 1, 2, 3, 10, 11, 12, 13] body11_1 [(0, .l (ents l)), (1, .i .i64 a), (2, .i .i64 fr), (3, .i .i64 to), (10, .i .i64 s.1), (11, .i .i64 s.2), (12, .i .i64 j), (13, .i .i64 0)] = some (.e 2, [(0, .l (ents l)), (1, .i .i64 a), (2, .i .i64 fr), (3, .i .i64 to), (10, .i .i64 (l[j].legs.foldl (rtuL a) s).1), (11, .i .i64 (l[j].legs.foldl (rtuL a) s).2), (12, .i .i64 j)]) := by
  have := loopK_code (o := O X) (kin := [0, 1, 2, 3, 10, 11, 12, 13]) (c := body11_1) (fun i => [(0, .l (ents l)), (1, .i .i64 a), (2, .i .i64 fr), (3, .i .i64 to), (10, .i .i64 ((l[j].legs.take i).foldl (rtuL a) s).1), (11, .i .i64 ((l[j].legs.take i).foldl (rtuL a) s).2), (12, .i .i64 j), (13, .i .i64 i)]) l[j].legs.length (fun _ => (none : Option Unit)) (fun _ => (.r, [])) (.e 2, [(0, .l (ents l)), (1, .i .i64 a), (2, .i .i64 fr), (3, .i .i64 to), (10, .i .i64 (l[j].legs.foldl (rtuL a) s).1), (11, .i .i64 (l[j].legs.foldl (rtuL a) s).2), (12, .i .i64 j)]) (by simp) (by simp) (fun i hi => by
    have hw := wrap_i64 (i + 1) (by omega)
    rw [ft_succ (rtuL a) s l[j].legs hi]
    generalize (l[j].legs.take i).foldl (rtuL a) s = n
    by_cases h1 : l[j].legs[i].account = a
    · by_cases h2 : 0 < l[j].legs[i].amount
      · have h3 : ¬ l[j].legs[i].amount < 0 := by omega
        simp [body11_1, hi, hj, hw, rtuL, h1, h2, h3]
      · by_cases h3 : l[j].legs[i].amount < 0 <;> simp [body11_1, hi, hj, hw, rtuL, h1, h2, h3]
    · simp [body11_1, hi, hj, hw, rtuL, h1]) (by simp [body11_1, hj]) (by simp)
  simpa [fs_none] using this
theorem l11 (l : List Entry) (a fr to : Int) (h : l.length ≤ 4096) (hl : ∀ e ∈ l, e.legs.length ≤ 4096) : loopK (O X) [0, 1, 2, 3, 10, 11, 12] body11_2 [(0, .l (ents l)), (1, .i .i64 a), (2, .i .i64 fr), (3, .i .i64 to), (10, .i .i64 0), (11, .i .i64 0), (12, .i .i64 0)] = some (.e 0, [(10, .i .i64 (rtuF a fr to l).1), (11, .i .i64 (rtuF a fr to l).2)]) := by
  have := loopK_code (o := O X) (kin := [0, 1, 2, 3, 10, 11, 12]) (c := body11_2) (fun i => [(0, .l (ents l)), (1, .i .i64 a), (2, .i .i64 fr), (3, .i .i64 to), (10, .i .i64 ((l.take i).foldl (rtuS a fr to) (0, 0)).1), (11, .i .i64 ((l.take i).foldl (rtuS a fr to) (0, 0)).2), (12, .i .i64 i)]) l.length (fun _ => (none : Option Unit)) (fun _ => (.r, [])) (.e 0, [(10, .i .i64 (rtuF a fr to l).1), (11, .i .i64 (rtuF a fr to l).2)]) (by simp) (by simp) (fun i hi => by
    have hw := wrap_i64 (i + 1) (by omega)
    rw [ft_succ (rtuS a fr to) (0, 0) l hi]
    generalize (l.take i).foldl (rtuS a fr to) (0, 0) = s
    have ha := l11a (X := X) l a fr to i hi s (hl _ (List.getElem_mem hi))
    by_cases h1 : l[i].booked < fr
    · simp [body11_2, hi, hw, rtuS, h1]
    · by_cases h2 : to < l[i].booked
      · simp [body11_2, hi, hw, rtuS, h1, h2]
      · simp [body11_2, hi, hw, rtuS, h1, h2, exec_loopK, ha]) (by simp [body11_2, rtuF]) (by simp)
  simpa [fs_none] using this
theorem o11 (l : List Entry) (a fr to : Int) (h : l.length ≤ 4096) (hl : ∀ e ∈ l, e.legs.length ≤ 4096) : O X 11 [.l (ents l), .i .i64 a, .i .i64 fr, .i .i64 to] = some (.t [.i .i64 (rtuF a fr to l).1, .i .i64 (rtuF a fr to l).2]) := by
  refine orun (fc := code11) rfl rfl rfl ?_
  have hl := l11 (X := X) l a fr to h hl
  simp [code11, exec_loopK, hl]
/-! ### Equal lists -/
def neC {α : Type} [DecidableEq α] (a b : List α) (i : Nat) : Option Unit := if a[i]? = b[i]? then none else some ()
theorem neC_eq {α : Type} [DecidableEq α] {a b : List α} (h : a.length = b.length) : ((List.range a.length).findSome? (neC a b)).isNone = decide (a = b) := by
  by_cases he : a = b
  · subst he
    simp [neC]
  · have : ∃ i, i < a.length ∧ a[i]? ≠ b[i]? := by
      refine Classical.byContradiction fun hn => he (List.ext_getElem? fun i => ?_)
      by_cases hi : i < a.length
      · exact Classical.byContradiction fun h => hn ⟨i, hi, h⟩
      · rw [List.getElem?_eq_none (by omega), List.getElem?_eq_none (by omega)]
    obtain ⟨i, hi, hne⟩ := this
    rw [decide_eq_false he, Option.isNone_eq_false_iff]
    exact List.findSome?_isSome_iff.2 ⟨i, List.mem_range.2 hi, by simp [neC, hne]⟩
theorem l16 (a b : List Int) (h : a.length = b.length) (h2 : a.length ≤ 1000000) : loopK (O X) [0, 1, 5] body16_1 [(0, .l (ints a)), (1, .l (ints b)), (5, .i .i64 0)] = some (optE (fun _ => (.r, [(4, .b false)])) (.e 0, []) ((List.range a.length).findSome? (neC a b))) := by
  have := loopK_code (o := O X) (kin := [0, 1, 5]) (c := body16_1) (fun i => [(0, .l (ints a)), (1, .l (ints b)), (5, .i .i64 i)]) a.length (neC a b) (fun _ => (.r, [(4, .b false)])) (.e 0, []) (by simp) (by simp) (fun i hi => by
    have hw := wrap_i64 (i + 1) (by omega)
    have hb : i < b.length := by omega
    by_cases h : a[i] = b[i] <;> simp [body16_1, hi, hb, hw, neC, h]) (by simp [body16_1]) (by simp)
  exact this
theorem o16 (a b : List Int) (h2 : a.length ≤ 1000000) : O X 16 [.l (ints a), .l (ints b)] = some (.b (decide (a = b))) := by
  refine orun (fc := code16) rfl rfl rfl ?_
  by_cases h : a.length = b.length
  · have hl := l16 (X := X) a b h h2
    rw [← neC_eq h]
    cases hq : (List.range a.length).findSome? (neC a b) <;> rw [hq] at hl <;> simp [code16, exec_loopK, hl, h]
  · have h1 : ¬ (a.length : Int) = (b.length : Int) := by omega
    have h3 : ¬ a = b := fun e => h (by rw [e])
    simp [code16, h1, h3]
theorem l21 (a b : List Leg) (h : a.length = b.length) (h2 : a.length ≤ 1000000) : loopK (O X) [0, 1, 5] body21_1 [(0, .l (legs a)), (1, .l (legs b)), (5, .i .i64 0)] = some (optE (fun _ => (.r, [(4, .b false)])) (.e 0, []) ((List.range a.length).findSome? (neC a b))) := by
  have := loopK_code (o := O X) (kin := [0, 1, 5]) (c := body21_1) (fun i => [(0, .l (legs a)), (1, .l (legs b)), (5, .i .i64 i)]) a.length (neC a b) (fun _ => (.r, [(4, .b false)])) (.e 0, []) (by simp) (by simp) (fun i hi => by
    have hw := wrap_i64 (i + 1) (by omega)
    have hb : i < b.length := by omega
    by_cases h : a[i] = b[i]
    · simp [body21_1, hi, hb, hw, neC, h]
    · have h' : ¬ (a[i].account = b[i].account ∧ a[i].amount = b[i].amount ∧ a[i].currency = b[i].currency) := fun e => h (by
        cases h1 : a[i]; cases h3 : b[i]
        rw [h1, h3] at e
        simp only at e
        rw [e.1, e.2.1, e.2.2])
      simp [body21_1, hi, hb, hw, neC, h, eqCells, h']) (by simp [body21_1]) (by simp)
  exact this
theorem o21 (a b : List Leg) (h2 : a.length ≤ 1000000) : O X 21 [.l (legs a), .l (legs b)] = some (.b (decide (a = b))) := by
  refine orun (fc := code21) rfl rfl rfl ?_
  by_cases h : a.length = b.length
  · have hl := l21 (X := X) a b h h2
    rw [← neC_eq h]
    cases hq : (List.range a.length).findSome? (neC a b) <;> rw [hq] at hl <;> simp [code21, exec_loopK, hl, h]
  · have h1 : ¬ (a.length : Int) = (b.length : Int) := by omega
    have h3 : ¬ a = b := fun e => h (by rw [e])
    simp [code21, h1, h3]
end
end Go.Proofs.Ytggmlfmhinafhaa
