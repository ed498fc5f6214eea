/-
  The plain data of the laws arguments: printed by a program of ours off the translation.
-/
import Derived.Test.YtoahbbpjhdegoaaDoorCode
import Derived.Test.YtoahbbpjhdegoaaDoorVmN
namespace Go.Proofs.YtoahbbpjhdegoaaDoor
open Go.VM
/-- 'Debit'. -/
structure Debit where
  id : Int
  mandate : Int
  amount : Int
  day : Int
  settled : Int
  returned : Int
  reason : Int
  state : Int
  key : List UInt8
  deriving DecidableEq
abbrev Debit.cells (x : Debit) : List V := [.i .i64 x.id, .i .i64 x.mandate, .i .i64 x.amount, .i .i64 x.day, .i .i64 x.settled, .i .i64 x.returned, .i .i64 x.reason, .i .i64 x.state, .s x.key]
abbrev Debit.v (x : Debit) : V := .a ([.i .i64 x.id, .i .i64 x.mandate, .i .i64 x.amount, .i .i64 x.day, .i .i64 x.settled, .i .i64 x.returned, .i .i64 x.reason, .i .i64 x.state, .s x.key])
def Debit.ok (x : Debit) : Prop := I64 x.id ∧ I64 x.mandate ∧ I64 x.amount ∧ I64 x.day ∧ I64 x.settled ∧ I64 x.returned ∧ I64 x.reason ∧ I64 x.state ∧ x.key.length ≤ maxLen
@[simp] theorem Debit.all_len (l : List Debit) : (encL Debit.v l).all (fun x => x.cells.length == 9) = true := encL_all fun _ => rfl
@[simp] theorem Debit.len_all (l : List Debit) : (∀ x ∈ encL Debit.v l, x.cells.length = 9) = True := encL_len fun _ => rfl
theorem fitT32 {n : Nat} {ys : List V} (h : Fit Tryd.prog (n + 2) 32 ys) : ∃ x : Debit, ys = x.cells ∧ x.ok := by
  unfold Fit at h
  rw [Tryd.underlying32] at h
  simp only [List.foldr_cons, List.foldr_nil] at h
  obtain ⟨a0, b0, rfl, h0, a1, b1, rfl, h1, a2, b2, rfl, h2, a3, b3, rfl, h3, a4, b4, rfl, h4, a5, b5, rfl, h5, a6, b6, rfl, h6, a7, b7, rfl, h7, a8, b8, rfl, h8, rfl⟩ := h
  obtain ⟨x0, rfl, o0⟩ := fit_i64 Tryd.underlying3 h0
  obtain ⟨x1, rfl, o1⟩ := fit_i64 Tryd.underlying3 h1
  obtain ⟨x2, rfl, o2⟩ := fit_i64 Tryd.underlying3 h2
  obtain ⟨x3, rfl, o3⟩ := fit_i64 Tryd.underlying3 h3
  obtain ⟨x4, rfl, o4⟩ := fit_i64 Tryd.underlying3 h4
  obtain ⟨x5, rfl, o5⟩ := fit_i64 Tryd.underlying3 h5
  obtain ⟨x6, rfl, o6⟩ := fit_i64 Tryd.underlying3 h6
  obtain ⟨x7, rfl, o7⟩ := fit_i64 Tryd.underlying3 h7
  obtain ⟨x8, rfl, o8⟩ := VM.fit_string Tryd.underlying9 h8
  exact ⟨⟨x0, x1, x2, x3, x4, x5, x6, x7, x8⟩, rfl, o0, o1, o2, o3, o4, o5, o6, o7, o8⟩
/-- 'Mandate'. -/
structure Mandate where
  id : Int
  account : Int
  limit : Int
  signed : Int
  used : Int
  revoked : Int
  creditor : List UInt8
  deriving DecidableEq
abbrev Mandate.cells (x : Mandate) : List V := [.i .i64 x.id, .i .i64 x.account, .i .i64 x.limit, .i .i64 x.signed, .i .i64 x.used, .i .i64 x.revoked, .s x.creditor]
abbrev Mandate.v (x : Mandate) : V := .a ([.i .i64 x.id, .i .i64 x.account, .i .i64 x.limit, .i .i64 x.signed, .i .i64 x.used, .i .i64 x.revoked, .s x.creditor])
def Mandate.ok (x : Mandate) : Prop := I64 x.id ∧ I64 x.account ∧ I64 x.limit ∧ I64 x.signed ∧ I64 x.used ∧ I64 x.revoked ∧ x.creditor.length ≤ maxLen
@[simp] theorem Mandate.all_len (l : List Mandate) : (encL Mandate.v l).all (fun x => x.cells.length == 7) = true := encL_all fun _ => rfl
@[simp] theorem Mandate.len_all (l : List Mandate) : (∀ x ∈ encL Mandate.v l, x.cells.length = 7) = True := encL_len fun _ => rfl
theorem fitT49 {n : Nat} {ys : List V} (h : Fit Tryd.prog (n + 2) 49 ys) : ∃ x : Mandate, ys = x.cells ∧ x.ok := by
  unfold Fit at h
  rw [Tryd.underlying49] at h
  simp only [List.foldr_cons, List.foldr_nil] at h
  obtain ⟨a0, b0, rfl, h0, a1, b1, rfl, h1, a2, b2, rfl, h2, a3, b3, rfl, h3, a4, b4, rfl, h4, a5, b5, rfl, h5, a6, b6, rfl, h6, rfl⟩ := h
  obtain ⟨x0, rfl, o0⟩ := fit_i64 Tryd.underlying3 h0
  obtain ⟨x1, rfl, o1⟩ := fit_i64 Tryd.underlying3 h1
  obtain ⟨x2, rfl, o2⟩ := fit_i64 Tryd.underlying3 h2
  obtain ⟨x3, rfl, o3⟩ := fit_i64 Tryd.underlying3 h3
  obtain ⟨x4, rfl, o4⟩ := fit_i64 Tryd.underlying3 h4
  obtain ⟨x5, rfl, o5⟩ := fit_i64 Tryd.underlying3 h5
  obtain ⟨x6, rfl, o6⟩ := VM.fit_string Tryd.underlying9 h6
  exact ⟨⟨x0, x1, x2, x3, x4, x5, x6⟩, rfl, o0, o1, o2, o3, o4, o5, o6⟩
/-- 'Ask'. -/
structure Ask where
  d : Debit
  day : Int
  deriving DecidableEq
abbrev Ask.cells (x : Ask) : List V := [.i .i64 x.d.id, .i .i64 x.d.mandate, .i .i64 x.d.amount, .i .i64 x.d.day, .i .i64 x.d.settled, .i .i64 x.d.returned, .i .i64 x.d.reason, .i .i64 x.d.state, .s x.d.key, .i .i64 x.day]
abbrev Ask.v (x : Ask) : V := .a ([.i .i64 x.d.id, .i .i64 x.d.mandate, .i .i64 x.d.amount, .i .i64 x.d.day, .i .i64 x.d.settled, .i .i64 x.d.returned, .i .i64 x.d.reason, .i .i64 x.d.state, .s x.d.key, .i .i64 x.day])
def Ask.ok (x : Ask) : Prop := x.d.ok ∧ I64 x.day
@[simp] theorem Ask.all_len (l : List Ask) : (encL Ask.v l).all (fun x => x.cells.length == 10) = true := encL_all fun _ => rfl
@[simp] theorem Ask.len_all (l : List Ask) : (∀ x ∈ encL Ask.v l, x.cells.length = 10) = True := encL_len fun _ => rfl
theorem fitT34 {n : Nat} {ys : List V} (h : Fit Tryd.prog (n + 3) 34 ys) : ∃ x : Ask, ys = x.cells ∧ x.ok := by
  unfold Fit at h
  rw [Tryd.underlying34] at h
  simp only [List.foldr_cons, List.foldr_nil] at h
  obtain ⟨a0, b0, rfl, h0, a1, b1, rfl, h1, rfl⟩ := h
  obtain ⟨x0, rfl, o0⟩ := fitT32 h0
  obtain ⟨x1, rfl, o1⟩ := fit_i64 Tryd.underlying3 h1
  exact ⟨⟨x0, x1⟩, rfl, o0, o1⟩
/-- 'Act'. -/
structure Act where
  id : Int
  reason : Int
  day : Int
  e : Int
  deriving DecidableEq
abbrev Act.cells (x : Act) : List V := [.i .i64 x.id, .i .i64 x.reason, .i .i64 x.day, .i .i64 x.e]
abbrev Act.v (x : Act) : V := .a ([.i .i64 x.id, .i .i64 x.reason, .i .i64 x.day, .i .i64 x.e])
def Act.ok (x : Act) : Prop := I64 x.id ∧ I64 x.reason ∧ I64 x.day ∧ I64 x.e
@[simp] theorem Act.all_len (l : List Act) : (encL Act.v l).all (fun x => x.cells.length == 4) = true := encL_all fun _ => rfl
@[simp] theorem Act.len_all (l : List Act) : (∀ x ∈ encL Act.v l, x.cells.length = 4) = True := encL_len fun _ => rfl
theorem fitT42 {n : Nat} {ys : List V} (h : Fit Tryd.prog (n + 2) 42 ys) : ∃ x : Act, ys = x.cells ∧ x.ok := by
  unfold Fit at h
  rw [Tryd.underlying42] at h
  simp only [List.foldr_cons, List.foldr_nil] at h
  obtain ⟨a0, b0, rfl, h0, a1, b1, rfl, h1, a2, b2, rfl, h2, a3, b3, rfl, h3, rfl⟩ := h
  obtain ⟨x0, rfl, o0⟩ := fit_i64 Tryd.underlying3 h0
  obtain ⟨x1, rfl, o1⟩ := fit_i64 Tryd.underlying3 h1
  obtain ⟨x2, rfl, o2⟩ := fit_i64 Tryd.underlying3 h2
  obtain ⟨x3, rfl, o3⟩ := fit_i64 Tryd.underlying25 h3
  exact ⟨⟨x0, x1, x2, x3⟩, rfl, o0, o1, o2, o3⟩
theorem fitS22 {n : Nat} {ys : List V} (h : Fit Tryd.prog (n + 3) 22 ys) : ∃ l : List Debit, ys = [.l (encL Debit.v l)] ∧ l.length ≤ maxLen ∧ ∀ y ∈ l, y.ok :=
  fit_list Tryd.underlying22 (fun _ h => fit_agg (by kernel_rfl) (fitT32 h)) h
theorem pack22 (x : V) : packT Tryd.prog 22 [x] = x := pack_one (by kernel_rfl) x
theorem pack3 (x : V) : packT Tryd.prog 3 [x] = x := pack_one (by kernel_rfl) x
theorem fitS30 {n : Nat} {ys : List V} (h : Fit Tryd.prog (n + 3) 30 ys) : ∃ l : List Mandate, ys = [.l (encL Mandate.v l)] ∧ l.length ≤ maxLen ∧ ∀ y ∈ l, y.ok :=
  fit_list Tryd.underlying30 (fun _ h => fit_agg (by kernel_rfl) (fitT49 h)) h
theorem pack30 (x : V) : packT Tryd.prog 30 [x] = x := pack_one (by kernel_rfl) x
theorem pack34 (ys : List V) : packT Tryd.prog 34 ys = .a ys := pack_agg (by kernel_rfl) ys
theorem pack25 (x : V) : packT Tryd.prog 25 [x] = x := pack_one (by kernel_rfl) x
theorem pack42 (ys : List V) : packT Tryd.prog 42 ys = .a ys := pack_agg (by kernel_rfl) ys
end Go.Proofs.YtoahbbpjhdegoaaDoor
