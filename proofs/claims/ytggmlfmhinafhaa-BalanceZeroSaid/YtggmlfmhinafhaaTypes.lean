/-
  The plain data of the laws arguments: printed by a program of ours off the translation.
-/
import Derived.Test.YtggmlfmhinafhaaCode
import Derived.Test.YtggmlfmhinafhaaVmN
namespace Go.Proofs.Ytggmlfmhinafhaa
open Go.VM
/-- 'Leg'. -/
structure Leg where
  account : Int
  amount : Int
  currency : List UInt8
  deriving DecidableEq
abbrev Leg.cells (x : Leg) : List V := [.i .i64 x.account, .i .i64 x.amount, .s x.currency]
abbrev Leg.v (x : Leg) : V := .a ([.i .i64 x.account, .i .i64 x.amount, .s x.currency])
def Leg.ok (x : Leg) : Prop := I64 x.account ∧ I64 x.amount ∧ x.currency.length ≤ maxLen
@[simp] theorem Leg.all_len (l : List Leg) : (encL Leg.v l).all (fun x => x.cells.length == 3) = true := encL_all fun _ => rfl
@[simp] theorem Leg.len_all (l : List Leg) : (∀ x ∈ encL Leg.v l, x.cells.length = 3) = True := encL_len fun _ => rfl
theorem fitT44 {n : Nat} {ys : List V} (h : Fit Try.prog (n + 2) 44 ys) : ∃ x : Leg, ys = x.cells ∧ x.ok := by
  unfold Fit at h
  rw [Try.underlying44] at h
  simp only [List.foldr_cons, List.foldr_nil] at h
  obtain ⟨a0, b0, rfl, h0, a1, b1, rfl, h1, a2, b2, rfl, h2, rfl⟩ := h
  obtain ⟨x0, rfl, o0⟩ := fit_i64 Try.underlying3 h0
  obtain ⟨x1, rfl, o1⟩ := fit_i64 Try.underlying3 h1
  obtain ⟨x2, rfl, o2⟩ := VM.fit_string Try.underlying9 h2
  exact ⟨⟨x0, x1, x2⟩, rfl, o0, o1, o2⟩
theorem fitS37 {n : Nat} {ys : List V} (h : Fit Try.prog (n + 3) 37 ys) : ∃ l : List Leg, ys = [.l (encL Leg.v l)] ∧ l.length ≤ maxLen ∧ ∀ y ∈ l, y.ok :=
  fit_list Try.underlying37 (fun _ h => fit_agg (by kernel_rfl) (fitT44 h)) h
/-- 'Entry'. -/
structure Entry where
  id : Int
  booked : Int
  value : Int
  kind : Int
  auth : Int
  period : Int
  key : List UInt8
  text : List UInt8
  legs : List Leg
  chain : Int
  deriving DecidableEq
abbrev Entry.cells (x : Entry) : List V := [.i .i64 x.id, .i .i64 x.booked, .i .i64 x.value, .i .i64 x.kind, .i .i64 x.auth, .i .i64 x.period, .s x.key, .s x.text, .l (encL Leg.v x.legs), .i .u64 x.chain]
abbrev Entry.v (x : Entry) : V := .a ([.i .i64 x.id, .i .i64 x.booked, .i .i64 x.value, .i .i64 x.kind, .i .i64 x.auth, .i .i64 x.period, .s x.key, .s x.text, .l (encL Leg.v x.legs), .i .u64 x.chain])
def Entry.ok (x : Entry) : Prop := I64 x.id ∧ I64 x.booked ∧ I64 x.value ∧ I64 x.kind ∧ I64 x.auth ∧ I64 x.period ∧ x.key.length ≤ maxLen ∧ x.text.length ≤ maxLen ∧ (x.legs.length ≤ maxLen ∧ ∀ y ∈ x.legs, y.ok) ∧ (Lit.int .u64 x.chain).wf = true
@[simp] theorem Entry.all_len (l : List Entry) : (encL Entry.v l).all (fun x => x.cells.length == 10) = true := encL_all fun _ => rfl
@[simp] theorem Entry.len_all (l : List Entry) : (∀ x ∈ encL Entry.v l, x.cells.length = 10) = True := encL_len fun _ => rfl
theorem fitT41 {n : Nat} {ys : List V} (h : Fit Try.prog (n + 4) 41 ys) : ∃ x : Entry, ys = x.cells ∧ x.ok := by
  unfold Fit at h
  rw [Try.underlying41] at h
  simp only [List.foldr_cons, List.foldr_nil] at h
  obtain ⟨a0, b0, rfl, h0, a1, b1, rfl, h1, a2, b2, rfl, h2, a3, b3, rfl, h3, a4, b4, rfl, h4, a5, b5, rfl, h5, a6, b6, rfl, h6, a7, b7, rfl, h7, a8, b8, rfl, h8, a9, b9, rfl, h9, rfl⟩ := h
  obtain ⟨x0, rfl, o0⟩ := fit_i64 Try.underlying3 h0
  obtain ⟨x1, rfl, o1⟩ := fit_i64 Try.underlying3 h1
  obtain ⟨x2, rfl, o2⟩ := fit_i64 Try.underlying3 h2
  obtain ⟨x3, rfl, o3⟩ := fit_i64 Try.underlying3 h3
  obtain ⟨x4, rfl, o4⟩ := fit_i64 Try.underlying3 h4
  obtain ⟨x5, rfl, o5⟩ := fit_i64 Try.underlying3 h5
  obtain ⟨x6, rfl, o6⟩ := VM.fit_string Try.underlying9 h6
  obtain ⟨x7, rfl, o7⟩ := VM.fit_string Try.underlying9 h7
  obtain ⟨x8, rfl, o8⟩ := fitS37 h8
  obtain ⟨x9, rfl, o9⟩ := fit_int Try.underlying39 h9
  exact ⟨⟨x0, x1, x2, x3, x4, x5, x6, x7, x8, x9⟩, rfl, o0, o1, o2, o3, o4, o5, o6, o7, o8, o9⟩
/-- 'Ask'. -/
structure Ask where
  account : Int
  from' : Int
  to' : Int
  deriving DecidableEq
abbrev Ask.cells (x : Ask) : List V := [.i .i64 x.account, .i .i64 x.from', .i .i64 x.to']
abbrev Ask.v (x : Ask) : V := .a ([.i .i64 x.account, .i .i64 x.from', .i .i64 x.to'])
def Ask.ok (x : Ask) : Prop := I64 x.account ∧ I64 x.from' ∧ I64 x.to'
@[simp] theorem Ask.all_len (l : List Ask) : (encL Ask.v l).all (fun x => x.cells.length == 3) = true := encL_all fun _ => rfl
@[simp] theorem Ask.len_all (l : List Ask) : (∀ x ∈ encL Ask.v l, x.cells.length = 3) = True := encL_len fun _ => rfl
theorem fitT24 {n : Nat} {ys : List V} (h : Fit Try.prog (n + 2) 24 ys) : ∃ x : Ask, ys = x.cells ∧ x.ok := by
  unfold Fit at h
  rw [Try.underlying24] at h
  simp only [List.foldr_cons, List.foldr_nil] at h
  obtain ⟨a0, b0, rfl, h0, a1, b1, rfl, h1, a2, b2, rfl, h2, rfl⟩ := h
  obtain ⟨x0, rfl, o0⟩ := fit_i64 Try.underlying3 h0
  obtain ⟨x1, rfl, o1⟩ := fit_i64 Try.underlying3 h1
  obtain ⟨x2, rfl, o2⟩ := fit_i64 Try.underlying3 h2
  exact ⟨⟨x0, x1, x2⟩, rfl, o0, o1, o2⟩
theorem fitS22 {n : Nat} {ys : List V} (h : Fit Try.prog (n + 5) 22 ys) : ∃ l : List Entry, ys = [.l (encL Entry.v l)] ∧ l.length ≤ maxLen ∧ ∀ y ∈ l, y.ok :=
  fit_list Try.underlying22 (fun _ h => fit_agg (by kernel_rfl) (fitT41 h)) h
theorem pack22 (x : V) : packT Try.prog 22 [x] = x := pack_one (by kernel_rfl) x
theorem pack24 (ys : List V) : packT Try.prog 24 ys = .a ys := pack_agg (by kernel_rfl) ys
end Go.Proofs.Ytggmlfmhinafhaa
