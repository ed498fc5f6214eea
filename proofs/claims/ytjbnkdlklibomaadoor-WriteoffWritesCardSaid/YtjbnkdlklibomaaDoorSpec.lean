/-
  What the functions that the laws reach compute: days, sums of installments, classes, copies.
-/
import Derived.Test.YtjbnkdlklibomaaDoorTypes
import Derived.Test.YtjbnkdlklibomaaDoorVmO
set_option linter.all false
namespace Go.Proofs.YtjbnkdlklibomaaDoor
open Go.VM
def ext : Orc := fun f xs => match f with
  | 35 => cloneL 43 4 32 xs
  | 36 => cloneL 59 14 128 xs
  | _ => none
noncomputable def O : Orc := den tab ext
theorem orun {f : Nat} {fc : FCode} (ht : tab f = some fc) {args : List V} {y : V} (hl : args.length = fc.np) (ha : args.all V.arg = true) (h : retE fc.res (exec O fc.body (args0 0 args)) = some y) : O f args = some y := VM.run ht hl ha h
abbrev encD (l : List Due) : List V := encL Due.v l
abbrev encC (l : List Change) : List V := encL Change.v l
@[simp] theorem e35 (l : List Due) (h : l.length ≤ 40) : O 35 [.l (encD l)] = some (.l (encD l)) := den_ext rfl (cloneL_enc (by simp) (by omega))
@[simp] theorem e36 (l : List Change) (h : l.length ≤ 70) : O 36 [.l (encC l)] = some (.l (encC l)) := den_ext rfl (cloneL_enc (by simp) (by omega))
theorem live : O 9 [] = some (.b true) := runN_den (k := 40) 9 9 [] _ (by kernel_rfl)
def validD (d : Int) : Bool := decide (0 ≤ d) && decide (d ≤ 73048)
@[simp] theorem e32 (d : Int) : O 32 [.i .i64 d] = some (.b (validD d)) := by
  refine orun (fc := code32) rfl rfl rfl ?_; simp [code32, validD]
@[simp] theorem e33 (d : Int) : O 33 [.i .i64 d] = some (.b (validD d)) := by
  refine orun (fc := code33) rfl rfl rfl ?_; simp [code33, validD]
def within (n m : Int) : Bool := decide (0 ≤ n) && decide (n ≤ m)
@[simp] theorem e34 (n m : Int) : O 34 [.i .i64 n, .i .i64 m] = some (.b (within n m)) := by
  refine orun (fc := code34) rfl rfl rfl ?_; simp [code34, within]

/-! ### Sums -/
abbrev w (n : Int) : Int := IntKind.i64.wrap n
def sumT (f : Due → Int) (l : List Due) (i : Nat) : Int := (l.take i).foldl (fun n d => w (n + f d)) 0
@[simp] theorem sumT_zero (f : Due → Int) (l : List Due) : sumT f l 0 = 0 := rfl
theorem sumT_succ (f : Due → Int) (l : List Due) {i : Nat} (h : i < l.length) : sumT f l (i + 1) = w (sumT f l i + f l[i]) := by
  unfold sumT
  rw [List.take_succ_eq_append_getElem h, List.foldl_append]; rfl
abbrev sumP (l : List Due) : Int := sumT Due.principal l l.length
abbrev sumI (l : List Due) : Int := sumT Due.interest l l.length
theorem l37 (l : List Due) (h : l.length ≤ 40) : loopK O [4, 5, 8, 9, 10] body37_1 [(4, .i .i64 0), (5, .i .i64 0), (8, .l (encD l)), (9, .i .i64 l.length), (10, .i .i64 0)] = some (.e 0, [(4, .i .i64 (sumP l)), (5, .i .i64 (sumI l))]) := by
  have := loopK_run (o := O) (kin := [4, 5, 8, 9, 10]) (c := body37_1) (fun i => [(4, .i .i64 (sumT Due.principal l i)), (5, .i .i64 (sumT Due.interest l i)), (8, .l (encD l)), (9, .i .i64 l.length), (10, .i .i64 i)]) l.length (.e 0, [(4, .i .i64 (sumP l)), (5, .i .i64 (sumI l))]) (by simp) (fun i hi => by
    have hw := wrap_i64 (i + 1) (by omega)
    simp [body37_1, hi, hw, sumT_succ _ _ hi]) (by simp [body37_1]) (by simp)
  exact this
@[simp] theorem e37 (l : List Due) (h : l.length ≤ 40) : O 37 [.l (encD l)] = some (.t [.i .i64 (sumP l), .i .i64 (sumI l)]) := by
  refine orun (fc := code37) rfl rfl rfl ?_
  have hl := l37 l h
  simp [code37, exec_loopK, hl]
/-- Days of installments are numbers of the language. -/
def DayOk (l : List Due) : Prop := ∀ d ∈ l, d.day ≤ 9223372036854775807
abbrev last : Int := 9223372036854775807
theorem l19 (l : Loan) (h : l.dues.length ≤ 40) (hd : DayOk l.dues) : loopK O [1, 2, 5, 6] body19_1 [(1, .i .i64 last), (2, .bx l.cells), (5, .i .i64 0), (6, .i .i64 0)] = some (.e 0, [(5, .i .i64 (sumP l.dues))]) := by
  have := loopK_run (o := O) (kin := [1, 2, 5, 6]) (c := body19_1) (fun i => [(1, .i .i64 last), (2, .bx l.cells), (5, .i .i64 (sumT Due.principal l.dues i)), (6, .i .i64 i)]) l.dues.length (.e 0, [(5, .i .i64 (sumP l.dues))]) (by simp) (fun i hi => by
    have hw := wrap_i64 (i + 1) (by omega)
    have hdi := hd _ (List.getElem_mem hi)
    simp [body19_1, hi, hw, hdi, sumT_succ _ _ hi]) (by simp [body19_1]) (by simp)
  exact this
@[simp] theorem e19 (l : Loan) (h : l.dues.length ≤ 40) (hd : DayOk l.dues) : O 19 [l.v, .i .i64 last] = some (.i .i64 (sumP l.dues)) := by
  refine orun (fc := code19) rfl rfl rfl ?_
  have hl := l19 l h hd
  simp [code19, exec_loopK, hl]
theorem l20 (l : Loan) (h : l.dues.length ≤ 40) (hd : DayOk l.dues) : loopK O [1, 2, 5, 6] body20_1 [(1, .i .i64 last), (2, .bx l.cells), (5, .i .i64 0), (6, .i .i64 0)] = some (.e 0, [(5, .i .i64 (sumI l.dues))]) := by
  have := loopK_run (o := O) (kin := [1, 2, 5, 6]) (c := body20_1) (fun i => [(1, .i .i64 last), (2, .bx l.cells), (5, .i .i64 (sumT Due.interest l.dues i)), (6, .i .i64 i)]) l.dues.length (.e 0, [(5, .i .i64 (sumI l.dues))]) (by simp) (fun i hi => by
    have hw := wrap_i64 (i + 1) (by omega)
    have hdi := hd _ (List.getElem_mem hi)
    simp [body20_1, hi, hw, hdi, sumT_succ _ _ hi]) (by simp [body20_1]) (by simp)
  exact this
@[simp] theorem e20 (l : Loan) (h : l.dues.length ≤ 40) (hd : DayOk l.dues) : O 20 [l.v, .i .i64 last] = some (.i .i64 (sumI l.dues)) := by
  refine orun (fc := code20) rfl rfl rfl ?_
  have hl := l20 l h hd
  simp [code20, exec_loopK, hl]
abbrev outs (l : Loan) : Int := w (sumP l.dues - l.paidPrincipal)
@[simp] theorem e17 (l : Loan) (h : l.dues.length ≤ 40) (hd : DayOk l.dues) : O 17 [l.v] = some (.i .i64 (outs l)) := by
  refine orun (fc := code17) rfl rfl rfl ?_
  have h19 := e19 l h hd
  simp [code17, h19]
@[simp] theorem e27 (l : Loan) (h : l.dues.length ≤ 40) : O 27 [l.v] = some (.i .i64 (outs l)) := by
  refine orun (fc := code27) rfl rfl rfl ?_
  simp [code27, h]

/-! ### Days of arrears, classes -/
def dAt (l : Loan) (on : Int) (i : Nat) : Option Int := match l.dues[i]? with
  | some d => if d.day ≤ on ∧ (l.paidPrincipal < sumT Due.principal l.dues (i + 1) ∨ l.paidInterest < sumT Due.interest l.dues (i + 1)) then some (w (on - d.day)) else none
  | none => none
def days (l : Loan) (on : Int) : Int := ((List.range l.dues.length).findSome? (dAt l on)).getD 0
def posE (r : Option Int) : Int := r.getD 0
theorem l24 (l : Loan) (on : Int) (h : l.dues.length ≤ 40) : loopK O [1, 2, 5, 6, 10, 11, 12] body24_1 [(1, .i .i64 on), (2, .bx l.cells), (5, .i .i64 0), (6, .i .i64 0), (10, .l (encD l.dues)), (11, .i .i64 l.dues.length), (12, .i .i64 0)] =
    some (optE (fun n => (.r, [(4, .i .i64 n)])) (.e 0, []) ((List.range l.dues.length).findSome? (dAt l on))) := by
  have := loopK_code (o := O) (kin := [1, 2, 5, 6, 10, 11, 12]) (c := body24_1) (fun i => [(1, .i .i64 on), (2, .bx l.cells), (5, .i .i64 (sumT Due.principal l.dues i)), (6, .i .i64 (sumT Due.interest l.dues i)), (10, .l (encD l.dues)), (11, .i .i64 l.dues.length), (12, .i .i64 i)]) l.dues.length (dAt l on) (fun n => (.r, [(4, .i .i64 n)])) (.e 0, []) (by simp) (by simp) (fun i hi => by
    have hw := wrap_i64 (i + 1) (by omega)
    by_cases h1 : l.dues[i].day ≤ on
    · by_cases h2 : l.paidPrincipal < w (sumT Due.principal l.dues i + l.dues[i].principal)
      · simp [body24_1, hi, hw, dAt, sumT_succ _ _ hi, h1, h2]
      · by_cases h3 : l.paidInterest < w (sumT Due.interest l.dues i + l.dues[i].interest)
        · simp [body24_1, hi, hw, dAt, sumT_succ _ _ hi, h1, h2, h3]
        · simp [body24_1, hi, hw, dAt, sumT_succ _ _ hi, h1, h2, h3]
    · simp [body24_1, hi, hw, dAt, sumT_succ _ _ hi, h1]) (by simp [body24_1]) (by simp)
  exact this
@[simp] theorem e24 (l : Loan) (on : Int) (h : l.dues.length ≤ 40) : O 24 [l.v, .i .i64 on] = some (.i .i64 (days l on)) := by
  refine orun (fc := code24) rfl rfl rfl ?_
  have hl := l24 l on h
  cases hq : (List.range l.dues.length).findSome? (dAt l on) <;> rw [hq] at hl <;> simp [code24, exec_loopK, hl, days, hq]
theorem l29 (l : Loan) (on : Int) (h : l.dues.length ≤ 40) : loopK O [1, 2, 5, 6, 7] body29_1 [(1, .i .i64 on), (2, .bx l.cells), (5, .i .i64 0), (6, .i .i64 0), (7, .i .i64 0)] =
    some (optE (fun n => (.r, [(4, .i .i64 n)])) (.e 0, []) ((List.range l.dues.length).findSome? (dAt l on))) := by
  have := loopK_code (o := O) (kin := [1, 2, 5, 6, 7]) (c := body29_1) (fun i => [(1, .i .i64 on), (2, .bx l.cells), (5, .i .i64 (sumT Due.principal l.dues i)), (6, .i .i64 (sumT Due.interest l.dues i)), (7, .i .i64 i)]) l.dues.length (dAt l on) (fun n => (.r, [(4, .i .i64 n)])) (.e 0, []) (by simp) (by simp) (fun i hi => by
    have hw := wrap_i64 (i + 1) (by omega)
    by_cases h1 : l.dues[i].day ≤ on
    · by_cases h2 : l.paidPrincipal < w (sumT Due.principal l.dues i + l.dues[i].principal)
      · simp [body29_1, hi, hw, dAt, sumT_succ _ _ hi, h1, h2]
      · by_cases h3 : l.paidInterest < w (sumT Due.interest l.dues i + l.dues[i].interest)
        · simp [body29_1, hi, hw, dAt, sumT_succ _ _ hi, h1, h2, h3]
        · simp [body29_1, hi, hw, dAt, sumT_succ _ _ hi, h1, h2, h3]
    · simp [body29_1, hi, hw, dAt, sumT_succ _ _ hi, h1]) (by simp [body29_1]) (by simp)
  exact this
@[simp] theorem e29 (l : Loan) (on : Int) (h : l.dues.length ≤ 40) : O 29 [l.v, .i .i64 on] = some (.i .i64 (days l on)) := by
  refine orun (fc := code29) rfl rfl rfl ?_
  have hl := l29 l on h
  cases hq : (List.range l.dues.length).findSome? (dAt l on) <;> rw [hq] at hl <;> simp [code29, exec_loopK, hl, days, hq]
def most (i : Nat) : Int := match i with
  | 0 => 0
  | 1 => 30
  | 2 => 60
  | _ => 90
def bAt (d : Int) (i : Nat) : Option Nat := if d ≤ most i then some i else none
def bucket (d : Int) : Int := if d ≤ 0 then 0 else if d ≤ 30 then 1 else if d ≤ 60 then 2 else if d ≤ 90 then 3 else 4
theorem l23 (d : Int) : loopK O [0, 5, 6] body23_1 [(0, .i .i64 d), (5, .a [.i .i64 0, .i .i64 30, .i .i64 60, .i .i64 90]), (6, .i .i64 0)] =
    some (optE (fun (n : Nat) => (.r, [(2, .i .i64 n)])) (.e 0, []) ((List.range 4).findSome? (bAt d))) := by
  have := loopK_code (o := O) (kin := [0, 5, 6]) (c := body23_1) (fun i => [(0, .i .i64 d), (5, .a [.i .i64 0, .i .i64 30, .i .i64 60, .i .i64 90]), (6, .i .i64 i)]) 4 (bAt d) (fun (n : Nat) => (.r, [(2, .i .i64 n)])) (.e 0, []) (by simp) (by simp) (fun i hi => by
    match i, hi with
    | 0, _ => by_cases h : d ≤ 0 <;> simp [body23_1, bAt, most, h, show IntKind.i64.wrap 1 = 1 from rfl, sub]
    | 1, _ => by_cases h : d ≤ 30 <;> simp [body23_1, bAt, most, h, show IntKind.i64.wrap 2 = 2 from rfl, sub]
    | 2, _ => by_cases h : d ≤ 60 <;> simp [body23_1, bAt, most, h, show IntKind.i64.wrap 3 = 3 from rfl, sub]
    | 3, _ => by_cases h : d ≤ 90 <;> simp [body23_1, bAt, most, h, show IntKind.i64.wrap 4 = 4 from rfl, sub]) (by simp [body23_1]) (by simp)
  exact this
@[simp] theorem e23 (d : Int) : O 23 [.i .i64 d] = some (.i .i64 (bucket d)) := by
  refine orun (fc := code23) rfl rfl rfl ?_
  have hl := l23 d
  have e : (List.range 4).findSome? (bAt d) = (if d ≤ 0 then some 0 else if d ≤ 30 then some 1 else if d ≤ 60 then some 2 else if d ≤ 90 then some 3 else none) := by
    simp only [List.range, List.range.loop, List.findSome?, bAt, most]
    by_cases h1 : d ≤ 0 <;> by_cases h2 : d ≤ 30 <;> by_cases h3 : d ≤ 60 <;> by_cases h4 : d ≤ 90 <;> simp [h1, h2, h3, h4]
  rw [e] at hl
  unfold bucket
  by_cases h1 : d ≤ 0
  · simp [code23, exec_loopK, hl, h1]
  · by_cases h2 : d ≤ 30
    · simp [code23, exec_loopK, hl, h1, h2]
    · by_cases h3 : d ≤ 60
      · simp [code23, exec_loopK, hl, h1, h2, h3]
      · by_cases h4 : d ≤ 90 <;> simp [code23, exec_loopK, hl, h1, h2, h3, h4]
@[simp] theorem e28 (d : Int) : O 28 [.i .i64 d] = some (.i .i64 (bucket d)) := by
  refine orun (fc := code28) rfl rfl rfl ?_
  unfold bucket
  by_cases h1 : d ≤ 0
  · simp [code28, h1]
  · by_cases h2 : d ≤ 30
    · simp [code28, h1, h2]
    · by_cases h3 : d ≤ 60
      · simp [code28, h1, h2, h3]
      · by_cases h4 : d ≤ 90 <;> simp [code28, h1, h2, h3, h4]
end Go.Proofs.YtjbnkdlklibomaaDoor
