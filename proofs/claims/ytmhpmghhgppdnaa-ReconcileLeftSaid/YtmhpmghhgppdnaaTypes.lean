/-
  The plain data of the laws arguments: printed by a program of ours off the translation.
-/
import Derived.Test.YtmhpmghhgppdnaaCode
import Derived.Test.YtmhpmghhgppdnaaVmN
namespace Go.Proofs.Ytmhpmghhgppdnaa
open Go.VM
/-- 'Item'. -/
structure Item where
  ref : List UInt8
  day : Int
  amount : Int
  deriving DecidableEq
abbrev Item.cells (x : Item) : List V := [.s x.ref, .i .i64 x.day, .i .i64 x.amount]
abbrev Item.v (x : Item) : V := .a ([.s x.ref, .i .i64 x.day, .i .i64 x.amount])
def Item.ok (x : Item) : Prop := x.ref.length ≤ maxLen ∧ I64 x.day ∧ I64 x.amount
@[simp] theorem Item.all_len (l : List Item) : (encL Item.v l).all (fun x => x.cells.length == 3) = true := encL_all fun _ => rfl
@[simp] theorem Item.len_all (l : List Item) : (∀ x ∈ encL Item.v l, x.cells.length = 3) = True := encL_len fun _ => rfl
theorem fitT40 {n : Nat} {ys : List V} (h : Fit Try.prog (n + 2) 40 ys) : ∃ x : Item, ys = x.cells ∧ x.ok := by
  unfold Fit at h
  rw [Try.underlying40] at h
  simp only [List.foldr_cons, List.foldr_nil] at h
  obtain ⟨a0, b0, rfl, h0, a1, b1, rfl, h1, a2, b2, rfl, h2, rfl⟩ := h
  obtain ⟨x0, rfl, o0⟩ := VM.fit_string Try.underlying9 h0
  obtain ⟨x1, rfl, o1⟩ := fit_i64 Try.underlying3 h1
  obtain ⟨x2, rfl, o2⟩ := fit_i64 Try.underlying3 h2
  exact ⟨⟨x0, x1, x2⟩, rfl, o0, o1, o2⟩
/-- 'Pair'. -/
structure Pair where
  ours : Int
  theirs : Int
  how : Int
  deriving DecidableEq
abbrev Pair.cells (x : Pair) : List V := [.i .i64 x.ours, .i .i64 x.theirs, .i .i64 x.how]
abbrev Pair.v (x : Pair) : V := .a ([.i .i64 x.ours, .i .i64 x.theirs, .i .i64 x.how])
def Pair.ok (x : Pair) : Prop := I64 x.ours ∧ I64 x.theirs ∧ I64 x.how
@[simp] theorem Pair.all_len (l : List Pair) : (encL Pair.v l).all (fun x => x.cells.length == 3) = true := encL_all fun _ => rfl
@[simp] theorem Pair.len_all (l : List Pair) : (∀ x ∈ encL Pair.v l, x.cells.length = 3) = True := encL_len fun _ => rfl
theorem fitT38 {n : Nat} {ys : List V} (h : Fit Try.prog (n + 2) 38 ys) : ∃ x : Pair, ys = x.cells ∧ x.ok := by
  unfold Fit at h
  rw [Try.underlying38] at h
  simp only [List.foldr_cons, List.foldr_nil] at h
  obtain ⟨a0, b0, rfl, h0, a1, b1, rfl, h1, a2, b2, rfl, h2, rfl⟩ := h
  obtain ⟨x0, rfl, o0⟩ := fit_i64 Try.underlying3 h0
  obtain ⟨x1, rfl, o1⟩ := fit_i64 Try.underlying3 h1
  obtain ⟨x2, rfl, o2⟩ := fit_i64 Try.underlying3 h2
  exact ⟨⟨x0, x1, x2⟩, rfl, o0, o1, o2⟩
/-- 'Leg'. -/
structure Leg where
  account : Int
  amount : Int
  currency : List UInt8
  deriving DecidableEq
abbrev Leg.cells (x : Leg) : List V := [.i .i64 x.account, .i .i64 x.amount, .s x.currency]
abbrev Leg.v (x : Leg) : V := .a ([.i .i64 x.account, .i .i64 x.amount, .s x.currency])
def Leg.ok (x : Leg) : Prop := I64 x.account ∧ I64 x.amount ∧ x.currency.length ≤ maxLen
@[simp] theorem Leg.all_len (l : List Leg) : (encL Leg.v l).all (fun x => x.cells.length == 3) = true := encL_all fun _ => rfl
@[simp] theorem Leg.len_all (l : List Leg) : (∀ x ∈ encL Leg.v l, x.cells.length = 3) = True := encL_len fun _ => rfl
theorem fitT73 {n : Nat} {ys : List V} (h : Fit Try.prog (n + 2) 73 ys) : ∃ x : Leg, ys = x.cells ∧ x.ok := by
  unfold Fit at h
  rw [Try.underlying73] at h
  simp only [List.foldr_cons, List.foldr_nil] at h
  obtain ⟨a0, b0, rfl, h0, a1, b1, rfl, h1, a2, b2, rfl, h2, rfl⟩ := h
  obtain ⟨x0, rfl, o0⟩ := fit_i64 Try.underlying3 h0
  obtain ⟨x1, rfl, o1⟩ := fit_i64 Try.underlying3 h1
  obtain ⟨x2, rfl, o2⟩ := VM.fit_string Try.underlying9 h2
  exact ⟨⟨x0, x1, x2⟩, rfl, o0, o1, o2⟩
theorem fitS68 {n : Nat} {ys : List V} (h : Fit Try.prog (n + 3) 68 ys) : ∃ l : List Leg, ys = [.l (encL Leg.v l)] ∧ l.length ≤ maxLen ∧ ∀ y ∈ l, y.ok :=
  fit_list Try.underlying68 (fun _ h => fit_agg (by kernel_rfl) (fitT73 h)) h
/-- 'Entry'. -/
structure Entry where
  id : Int
  booked : Int
  value : Int
  kind : Int
  auth : Int
  period : Int
  key : List UInt8
  text : List UInt8
  legs : List Leg
  chain : Int
  deriving DecidableEq
abbrev Entry.cells (x : Entry) : List V := [.i .i64 x.id, .i .i64 x.booked, .i .i64 x.value, .i .i64 x.kind, .i .i64 x.auth, .i .i64 x.period, .s x.key, .s x.text, .l (encL Leg.v x.legs), .i .u64 x.chain]
abbrev Entry.v (x : Entry) : V := .a ([.i .i64 x.id, .i .i64 x.booked, .i .i64 x.value, .i .i64 x.kind, .i .i64 x.auth, .i .i64 x.period, .s x.key, .s x.text, .l (encL Leg.v x.legs), .i .u64 x.chain])
def Entry.ok (x : Entry) : Prop := I64 x.id ∧ I64 x.booked ∧ I64 x.value ∧ I64 x.kind ∧ I64 x.auth ∧ I64 x.period ∧ x.key.length ≤ maxLen ∧ x.text.length ≤ maxLen ∧ (x.legs.length ≤ maxLen ∧ ∀ y ∈ x.legs, y.ok) ∧ (Lit.int .u64 x.chain).wf = true
@[simp] theorem Entry.all_len (l : List Entry) : (encL Entry.v l).all (fun x => x.cells.length == 10) = true := encL_all fun _ => rfl
@[simp] theorem Entry.len_all (l : List Entry) : (∀ x ∈ encL Entry.v l, x.cells.length = 10) = True := encL_len fun _ => rfl
theorem fitT71 {n : Nat} {ys : List V} (h : Fit Try.prog (n + 4) 71 ys) : ∃ x : Entry, ys = x.cells ∧ x.ok := by
  unfold Fit at h
  rw [Try.underlying71] at h
  simp only [List.foldr_cons, List.foldr_nil] at h
  obtain ⟨a0, b0, rfl, h0, a1, b1, rfl, h1, a2, b2, rfl, h2, a3, b3, rfl, h3, a4, b4, rfl, h4, a5, b5, rfl, h5, a6, b6, rfl, h6, a7, b7, rfl, h7, a8, b8, rfl, h8, a9, b9, rfl, h9, rfl⟩ := h
  obtain ⟨x0, rfl, o0⟩ := fit_i64 Try.underlying3 h0
  obtain ⟨x1, rfl, o1⟩ := fit_i64 Try.underlying3 h1
  obtain ⟨x2, rfl, o2⟩ := fit_i64 Try.underlying3 h2
  obtain ⟨x3, rfl, o3⟩ := fit_i64 Try.underlying3 h3
  obtain ⟨x4, rfl, o4⟩ := fit_i64 Try.underlying3 h4
  obtain ⟨x5, rfl, o5⟩ := fit_i64 Try.underlying3 h5
  obtain ⟨x6, rfl, o6⟩ := VM.fit_string Try.underlying9 h6
  obtain ⟨x7, rfl, o7⟩ := VM.fit_string Try.underlying9 h7
  obtain ⟨x8, rfl, o8⟩ := fitS68 h8
  obtain ⟨x9, rfl, o9⟩ := fit_int Try.underlying69 h9
  exact ⟨⟨x0, x1, x2, x3, x4, x5, x6, x7, x8, x9⟩, rfl, o0, o1, o2, o3, o4, o5, o6, o7, o8, o9⟩
/-- 'Span'. -/
structure Span where
  account : Int
  from' : Int
  to' : Int
  deriving DecidableEq
abbrev Span.cells (x : Span) : List V := [.i .i64 x.account, .i .i64 x.from', .i .i64 x.to']
abbrev Span.v (x : Span) : V := .a ([.i .i64 x.account, .i .i64 x.from', .i .i64 x.to'])
def Span.ok (x : Span) : Prop := I64 x.account ∧ I64 x.from' ∧ I64 x.to'
@[simp] theorem Span.all_len (l : List Span) : (encL Span.v l).all (fun x => x.cells.length == 3) = true := encL_all fun _ => rfl
@[simp] theorem Span.len_all (l : List Span) : (∀ x ∈ encL Span.v l, x.cells.length = 3) = True := encL_len fun _ => rfl
theorem fitT45 {n : Nat} {ys : List V} (h : Fit Try.prog (n + 2) 45 ys) : ∃ x : Span, ys = x.cells ∧ x.ok := by
  unfold Fit at h
  rw [Try.underlying45] at h
  simp only [List.foldr_cons, List.foldr_nil] at h
  obtain ⟨a0, b0, rfl, h0, a1, b1, rfl, h1, a2, b2, rfl, h2, rfl⟩ := h
  obtain ⟨x0, rfl, o0⟩ := fit_i64 Try.underlying3 h0
  obtain ⟨x1, rfl, o1⟩ := fit_i64 Try.underlying3 h1
  obtain ⟨x2, rfl, o2⟩ := fit_i64 Try.underlying3 h2
  exact ⟨⟨x0, x1, x2⟩, rfl, o0, o1, o2⟩
-- type 37 has no name
theorem fitS22 {n : Nat} {ys : List V} (h : Fit Try.prog (n + 3) 22 ys) : ∃ l : List Item, ys = [.l (encL Item.v l)] ∧ l.length ≤ maxLen ∧ ∀ y ∈ l, y.ok :=
  fit_list Try.underlying22 (fun _ h => fit_agg (by kernel_rfl) (fitT40 h)) h
theorem pack22 (x : V) : packT Try.prog 22 [x] = x := pack_one (by kernel_rfl) x
theorem fitS25 {n : Nat} {ys : List V} (h : Fit Try.prog (n + 3) 25 ys) : ∃ l : List Pair, ys = [.l (encL Pair.v l)] ∧ l.length ≤ maxLen ∧ ∀ y ∈ l, y.ok :=
  fit_list Try.underlying25 (fun _ h => fit_agg (by kernel_rfl) (fitT38 h)) h
theorem pack25 (x : V) : packT Try.prog 25 [x] = x := pack_one (by kernel_rfl) x
theorem fitS26 {n : Nat} {ys : List V} (h : Fit Try.prog (n + 2) 26 ys) : ∃ l : List Int, ys = [.l (encL (V.i .i64) l)] ∧ l.length ≤ maxLen ∧ ∀ y ∈ l, I64 y :=
  fit_list Try.underlying26 (fun _ h => fit_one (by kernel_rfl) (fit_i64 Try.underlying3 h)) h
theorem pack26 (x : V) : packT Try.prog 26 [x] = x := pack_one (by kernel_rfl) x
theorem fitS43 {n : Nat} {ys : List V} (h : Fit Try.prog (n + 5) 43 ys) : ∃ l : List Entry, ys = [.l (encL Entry.v l)] ∧ l.length ≤ maxLen ∧ ∀ y ∈ l, y.ok :=
  fit_list Try.underlying43 (fun _ h => fit_agg (by kernel_rfl) (fitT71 h)) h
theorem pack43 (x : V) : packT Try.prog 43 [x] = x := pack_one (by kernel_rfl) x
theorem pack45 (ys : List V) : packT Try.prog 45 ys = .a ys := pack_agg (by kernel_rfl) ys
theorem pack37 (ys : List V) : packT Try.prog 37 ys = .a ys := pack_agg (by kernel_rfl) ys
theorem pack40 (ys : List V) : packT Try.prog 40 ys = .a ys := pack_agg (by kernel_rfl) ys
theorem pack38 (ys : List V) : packT Try.prog 38 ys = .a ys := pack_agg (by kernel_rfl) ys
end Go.Proofs.Ytmhpmghhgppdnaa
