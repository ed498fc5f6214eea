/-
  The plain data of the laws arguments: printed by a program of ours off the translation.
-/
import Derived.Test.YtjbnkdlklibomaaDoorCode
import Derived.Test.YtjbnkdlklibomaaDoorVmN
set_option linter.all false
namespace Go.Proofs.YtjbnkdlklibomaaDoor
open Go.VM
/-- 'Terms'. -/
structure Terms where
  method : Int
  principal : Int
  ppm : Int
  start : Int
  every : Int
  count : Int
  balloon : Int
  mode' : Int
  penaltyPpm : Int
  feePpm : Int
  calendar : List UInt8
  currency : List UInt8
  deriving DecidableEq
abbrev Terms.cells (x : Terms) : List V := [.i .i64 x.method, .i .i64 x.principal, .i .i64 x.ppm, .i .i64 x.start, .i .i64 x.every, .i .i64 x.count, .i .i64 x.balloon, .i .i64 x.mode', .i .i64 x.penaltyPpm, .i .i64 x.feePpm, .s x.calendar, .s x.currency]
abbrev Terms.v (x : Terms) : V := .a ([.i .i64 x.method, .i .i64 x.principal, .i .i64 x.ppm, .i .i64 x.start, .i .i64 x.every, .i .i64 x.count, .i .i64 x.balloon, .i .i64 x.mode', .i .i64 x.penaltyPpm, .i .i64 x.feePpm, .s x.calendar, .s x.currency])
def Terms.ok (x : Terms) : Prop := I64 x.method ∧ I64 x.principal ∧ I64 x.ppm ∧ I64 x.start ∧ I64 x.every ∧ I64 x.count ∧ I64 x.balloon ∧ I64 x.mode' ∧ I64 x.penaltyPpm ∧ I64 x.feePpm ∧ x.calendar.length ≤ maxLen ∧ x.currency.length ≤ maxLen
@[simp] theorem Terms.all_len (l : List Terms) : (encL Terms.v l).all (fun x => x.cells.length == 12) = true := encL_all fun _ => rfl
@[simp] theorem Terms.len_all (l : List Terms) : (∀ x ∈ encL Terms.v l, x.cells.length = 12) = True := encL_len fun _ => rfl
theorem fitT23 {n : Nat} {ys : List V} (h : Fit Tryd.prog (n + 2) 23 ys) : ∃ x : Terms, ys = x.cells ∧ x.ok := by
  unfold Fit at h
  rw [Tryd.underlying23] at h
  simp only [List.foldr_cons, List.foldr_nil] at h
  obtain ⟨a0, b0, rfl, h0, a1, b1, rfl, h1, a2, b2, rfl, h2, a3, b3, rfl, h3, a4, b4, rfl, h4, a5, b5, rfl, h5, a6, b6, rfl, h6, a7, b7, rfl, h7, a8, b8, rfl, h8, a9, b9, rfl, h9, a10, b10, rfl, h10, a11, b11, rfl, h11, rfl⟩ := h
  obtain ⟨x0, rfl, o0⟩ := fit_i64 Tryd.underlying3 h0
  obtain ⟨x1, rfl, o1⟩ := fit_i64 Tryd.underlying3 h1
  obtain ⟨x2, rfl, o2⟩ := fit_i64 Tryd.underlying3 h2
  obtain ⟨x3, rfl, o3⟩ := fit_i64 Tryd.underlying3 h3
  obtain ⟨x4, rfl, o4⟩ := fit_i64 Tryd.underlying3 h4
  obtain ⟨x5, rfl, o5⟩ := fit_i64 Tryd.underlying3 h5
  obtain ⟨x6, rfl, o6⟩ := fit_i64 Tryd.underlying3 h6
  obtain ⟨x7, rfl, o7⟩ := fit_i64 Tryd.underlying3 h7
  obtain ⟨x8, rfl, o8⟩ := fit_i64 Tryd.underlying3 h8
  obtain ⟨x9, rfl, o9⟩ := fit_i64 Tryd.underlying3 h9
  obtain ⟨x10, rfl, o10⟩ := VM.fit_string Tryd.underlying9 h10
  obtain ⟨x11, rfl, o11⟩ := VM.fit_string Tryd.underlying9 h11
  exact ⟨⟨x0, x1, x2, x3, x4, x5, x6, x7, x8, x9, x10, x11⟩, rfl, o0, o1, o2, o3, o4, o5, o6, o7, o8, o9, o10, o11⟩
/-- 'Due'. -/
structure Due where
  no : Int
  day : Int
  principal : Int
  interest : Int
  deriving DecidableEq
abbrev Due.cells (x : Due) : List V := [.i .i64 x.no, .i .i64 x.day, .i .i64 x.principal, .i .i64 x.interest]
abbrev Due.v (x : Due) : V := .a ([.i .i64 x.no, .i .i64 x.day, .i .i64 x.principal, .i .i64 x.interest])
def Due.ok (x : Due) : Prop := I64 x.no ∧ I64 x.day ∧ I64 x.principal ∧ I64 x.interest
@[simp] theorem Due.all_len (l : List Due) : (encL Due.v l).all (fun x => x.cells.length == 4) = true := encL_all fun _ => rfl
@[simp] theorem Due.len_all (l : List Due) : (∀ x ∈ encL Due.v l, x.cells.length = 4) = True := encL_len fun _ => rfl
theorem fitT43 {n : Nat} {ys : List V} (h : Fit Tryd.prog (n + 2) 43 ys) : ∃ x : Due, ys = x.cells ∧ x.ok := by
  unfold Fit at h
  rw [Tryd.underlying43] at h
  simp only [List.foldr_cons, List.foldr_nil] at h
  obtain ⟨a0, b0, rfl, h0, a1, b1, rfl, h1, a2, b2, rfl, h2, a3, b3, rfl, h3, rfl⟩ := h
  obtain ⟨x0, rfl, o0⟩ := fit_i64 Tryd.underlying3 h0
  obtain ⟨x1, rfl, o1⟩ := fit_i64 Tryd.underlying3 h1
  obtain ⟨x2, rfl, o2⟩ := fit_i64 Tryd.underlying3 h2
  obtain ⟨x3, rfl, o3⟩ := fit_i64 Tryd.underlying3 h3
  exact ⟨⟨x0, x1, x2, x3⟩, rfl, o0, o1, o2, o3⟩
/-- 'Change'. -/
structure Change where
  day : Int
  amount : Int
  old : Terms
  deriving DecidableEq
abbrev Change.cells (x : Change) : List V := [.i .i64 x.day, .i .i64 x.amount, .i .i64 x.old.method, .i .i64 x.old.principal, .i .i64 x.old.ppm, .i .i64 x.old.start, .i .i64 x.old.every, .i .i64 x.old.count, .i .i64 x.old.balloon, .i .i64 x.old.mode', .i .i64 x.old.penaltyPpm, .i .i64 x.old.feePpm, .s x.old.calendar, .s x.old.currency]
abbrev Change.v (x : Change) : V := .a ([.i .i64 x.day, .i .i64 x.amount, .i .i64 x.old.method, .i .i64 x.old.principal, .i .i64 x.old.ppm, .i .i64 x.old.start, .i .i64 x.old.every, .i .i64 x.old.count, .i .i64 x.old.balloon, .i .i64 x.old.mode', .i .i64 x.old.penaltyPpm, .i .i64 x.old.feePpm, .s x.old.calendar, .s x.old.currency])
def Change.ok (x : Change) : Prop := I64 x.day ∧ I64 x.amount ∧ x.old.ok
@[simp] theorem Change.all_len (l : List Change) : (encL Change.v l).all (fun x => x.cells.length == 14) = true := encL_all fun _ => rfl
@[simp] theorem Change.len_all (l : List Change) : (∀ x ∈ encL Change.v l, x.cells.length = 14) = True := encL_len fun _ => rfl
theorem fitT59 {n : Nat} {ys : List V} (h : Fit Tryd.prog (n + 3) 59 ys) : ∃ x : Change, ys = x.cells ∧ x.ok := by
  unfold Fit at h
  rw [Tryd.underlying59] at h
  simp only [List.foldr_cons, List.foldr_nil] at h
  obtain ⟨a0, b0, rfl, h0, a1, b1, rfl, h1, a2, b2, rfl, h2, rfl⟩ := h
  obtain ⟨x0, rfl, o0⟩ := fit_i64 Tryd.underlying3 h0
  obtain ⟨x1, rfl, o1⟩ := fit_i64 Tryd.underlying3 h1
  obtain ⟨x2, rfl, o2⟩ := fitT23 h2
  exact ⟨⟨x0, x1, x2⟩, rfl, o0, o1, o2⟩
theorem fitS24 {n : Nat} {ys : List V} (h : Fit Tryd.prog (n + 3) 24 ys) : ∃ l : List Due, ys = [.l (encL Due.v l)] ∧ l.length ≤ maxLen ∧ ∀ y ∈ l, y.ok :=
  fit_list Tryd.underlying24 (fun _ h => fit_agg (by kernel_rfl) (fitT43 h)) h
theorem fitS25 {n : Nat} {ys : List V} (h : Fit Tryd.prog (n + 4) 25 ys) : ∃ l : List Change, ys = [.l (encL Change.v l)] ∧ l.length ≤ maxLen ∧ ∀ y ∈ l, y.ok :=
  fit_list Tryd.underlying25 (fun _ h => fit_agg (by kernel_rfl) (fitT59 h)) h
/-- 'Loan'. -/
structure Loan where
  id : Int
  account : Int
  state : Int
  paidPrincipal : Int
  paidInterest : Int
  fee : Int
  penalty : Int
  charged : Int
  provision : Int
  loss : Int
  recovered : Int
  terms : Terms
  dues : List Due
  changes : List Change
  deriving DecidableEq
abbrev Loan.cells (x : Loan) : List V := [.i .i64 x.id, .i .i64 x.account, .i .i64 x.state, .i .i64 x.paidPrincipal, .i .i64 x.paidInterest, .i .i64 x.fee, .i .i64 x.penalty, .i .i64 x.charged, .i .i64 x.provision, .i .i64 x.loss, .i .i64 x.recovered, .i .i64 x.terms.method, .i .i64 x.terms.principal, .i .i64 x.terms.ppm, .i .i64 x.terms.start, .i .i64 x.terms.every, .i .i64 x.terms.count, .i .i64 x.terms.balloon, .i .i64 x.terms.mode', .i .i64 x.terms.penaltyPpm, .i .i64 x.terms.feePpm, .s x.terms.calendar, .s x.terms.currency, .l (encL Due.v x.dues), .l (encL Change.v x.changes)]
abbrev Loan.v (x : Loan) : V := .a ([.i .i64 x.id, .i .i64 x.account, .i .i64 x.state, .i .i64 x.paidPrincipal, .i .i64 x.paidInterest, .i .i64 x.fee, .i .i64 x.penalty, .i .i64 x.charged, .i .i64 x.provision, .i .i64 x.loss, .i .i64 x.recovered, .i .i64 x.terms.method, .i .i64 x.terms.principal, .i .i64 x.terms.ppm, .i .i64 x.terms.start, .i .i64 x.terms.every, .i .i64 x.terms.count, .i .i64 x.terms.balloon, .i .i64 x.terms.mode', .i .i64 x.terms.penaltyPpm, .i .i64 x.terms.feePpm, .s x.terms.calendar, .s x.terms.currency, .l (encL Due.v x.dues), .l (encL Change.v x.changes)])
def Loan.ok (x : Loan) : Prop := I64 x.id ∧ I64 x.account ∧ I64 x.state ∧ I64 x.paidPrincipal ∧ I64 x.paidInterest ∧ I64 x.fee ∧ I64 x.penalty ∧ I64 x.charged ∧ I64 x.provision ∧ I64 x.loss ∧ I64 x.recovered ∧ x.terms.ok ∧ (x.dues.length ≤ maxLen ∧ ∀ y ∈ x.dues, y.ok) ∧ (x.changes.length ≤ maxLen ∧ ∀ y ∈ x.changes, y.ok)
@[simp] theorem Loan.all_len (l : List Loan) : (encL Loan.v l).all (fun x => x.cells.length == 25) = true := encL_all fun _ => rfl
@[simp] theorem Loan.len_all (l : List Loan) : (∀ x ∈ encL Loan.v l, x.cells.length = 25) = True := encL_len fun _ => rfl
theorem fitT27 {n : Nat} {ys : List V} (h : Fit Tryd.prog (n + 5) 27 ys) : ∃ x : Loan, ys = x.cells ∧ x.ok := by
  unfold Fit at h
  rw [Tryd.underlying27] at h
  simp only [List.foldr_cons, List.foldr_nil] at h
  obtain ⟨a0, b0, rfl, h0, a1, b1, rfl, h1, a2, b2, rfl, h2, a3, b3, rfl, h3, a4, b4, rfl, h4, a5, b5, rfl, h5, a6, b6, rfl, h6, a7, b7, rfl, h7, a8, b8, rfl, h8, a9, b9, rfl, h9, a10, b10, rfl, h10, a11, b11, rfl, h11, a12, b12, rfl, h12, a13, b13, rfl, h13, rfl⟩ := h
  obtain ⟨x0, rfl, o0⟩ := fit_i64 Tryd.underlying3 h0
  obtain ⟨x1, rfl, o1⟩ := fit_i64 Tryd.underlying3 h1
  obtain ⟨x2, rfl, o2⟩ := fit_i64 Tryd.underlying3 h2
  obtain ⟨x3, rfl, o3⟩ := fit_i64 Tryd.underlying3 h3
  obtain ⟨x4, rfl, o4⟩ := fit_i64 Tryd.underlying3 h4
  obtain ⟨x5, rfl, o5⟩ := fit_i64 Tryd.underlying3 h5
  obtain ⟨x6, rfl, o6⟩ := fit_i64 Tryd.underlying3 h6
  obtain ⟨x7, rfl, o7⟩ := fit_i64 Tryd.underlying3 h7
  obtain ⟨x8, rfl, o8⟩ := fit_i64 Tryd.underlying3 h8
  obtain ⟨x9, rfl, o9⟩ := fit_i64 Tryd.underlying3 h9
  obtain ⟨x10, rfl, o10⟩ := fit_i64 Tryd.underlying3 h10
  obtain ⟨x11, rfl, o11⟩ := fitT23 h11
  obtain ⟨x12, rfl, o12⟩ := fitS24 h12
  obtain ⟨x13, rfl, o13⟩ := fitS25 h13
  exact ⟨⟨x0, x1, x2, x3, x4, x5, x6, x7, x8, x9, x10, x11, x12, x13⟩, rfl, o0, o1, o2, o3, o4, o5, o6, o7, o8, o9, o10, o11, o12, o13⟩
theorem pack27 (ys : List V) : packT Tryd.prog 27 ys = .a ys := pack_agg (by kernel_rfl) ys
theorem fitS38 {n : Nat} {ys : List V} (h : Fit Tryd.prog (n + 6) 38 ys) : ∃ l : List Loan, ys = [.l (encL Loan.v l)] ∧ l.length ≤ maxLen ∧ ∀ y ∈ l, y.ok :=
  fit_list Tryd.underlying38 (fun _ h => fit_agg (by kernel_rfl) (fitT27 h)) h
theorem pack38 (x : V) : packT Tryd.prog 38 [x] = x := pack_one (by kernel_rfl) x
theorem pack3 (x : V) : packT Tryd.prog 3 [x] = x := pack_one (by kernel_rfl) x
end Go.Proofs.YtjbnkdlklibomaaDoor
