/-
  The plain data of the laws arguments: printed by a program of ours off the translation.
-/
import Derived.Test.YtlmbgmobghmmmaaCode
import Derived.Test.YtlmbgmobghmmmaaVmN
namespace Go.Proofs.Ytlmbgmobghmmmaa
open Go.VM
/-- 'Tier'. -/
structure Tier where
  from' : Int
  ppm : Int
  deriving DecidableEq
abbrev Tier.cells (x : Tier) : List V := [.i .i64 x.from', .i .i64 x.ppm]
abbrev Tier.v (x : Tier) : V := .a ([.i .i64 x.from', .i .i64 x.ppm])
def Tier.ok (x : Tier) : Prop := I64 x.from' ∧ I64 x.ppm
@[simp] theorem Tier.all_len (l : List Tier) : (encL Tier.v l).all (fun x => x.cells.length == 2) = true := encL_all fun _ => rfl
@[simp] theorem Tier.len_all (l : List Tier) : (∀ x ∈ encL Tier.v l, x.cells.length = 2) = True := encL_len fun _ => rfl
set_option maxRecDepth 100000 in
theorem fitT81 {n : Nat} {ys : List V} (h : Fit Try.prog (n + 2) 81 ys) : ∃ x : Tier, ys = x.cells ∧ x.ok := by
  unfold Fit at h
  rw [Try.underlying81] at h
  simp only [List.foldr_cons, List.foldr_nil] at h
  obtain ⟨a0, b0, rfl, h0, a1, b1, rfl, h1, rfl⟩ := h
  obtain ⟨x0, rfl, o0⟩ := fit_i64 Try.underlying3 h0
  obtain ⟨x1, rfl, o1⟩ := fit_i64 Try.underlying3 h1
  exact ⟨⟨x0, x1⟩, rfl, o0, o1⟩
set_option maxRecDepth 100000 in
theorem fitS27 {n : Nat} {ys : List V} (h : Fit Try.prog (n + 3) 27 ys) : ∃ l : List Tier, ys = [.l (encL Tier.v l)] ∧ l.length ≤ maxLen ∧ ∀ y ∈ l, y.ok :=
  fit_list Try.underlying27 (fun _ h => fit_agg (by kernel_rfl) (fitT81 h)) h
/-- 'Interest'. -/
structure Interest where
  tiers : List Tier
  marginal : Bool
  basis : Int
  mode' : Int
  keep : Bool
  deriving DecidableEq
abbrev Interest.cells (x : Interest) : List V := [.l (encL Tier.v x.tiers), .b x.marginal, .i .i64 x.basis, .i .i64 x.mode', .b x.keep]
abbrev Interest.v (x : Interest) : V := .a ([.l (encL Tier.v x.tiers), .b x.marginal, .i .i64 x.basis, .i .i64 x.mode', .b x.keep])
def Interest.ok (x : Interest) : Prop := (x.tiers.length ≤ maxLen ∧ ∀ y ∈ x.tiers, y.ok) ∧ True ∧ I64 x.basis ∧ I64 x.mode' ∧ True
@[simp] theorem Interest.all_len (l : List Interest) : (encL Interest.v l).all (fun x => x.cells.length == 5) = true := encL_all fun _ => rfl
@[simp] theorem Interest.len_all (l : List Interest) : (∀ x ∈ encL Interest.v l, x.cells.length = 5) = True := encL_len fun _ => rfl
set_option maxRecDepth 100000 in
theorem fitT29 {n : Nat} {ys : List V} (h : Fit Try.prog (n + 4) 29 ys) : ∃ x : Interest, ys = x.cells ∧ x.ok := by
  unfold Fit at h
  rw [Try.underlying29] at h
  simp only [List.foldr_cons, List.foldr_nil] at h
  obtain ⟨a0, b0, rfl, h0, a1, b1, rfl, h1, a2, b2, rfl, h2, a3, b3, rfl, h3, a4, b4, rfl, h4, rfl⟩ := h
  obtain ⟨x0, rfl, o0⟩ := fitS27 h0
  obtain ⟨x1, rfl⟩ := fit_bool Try.underlying4 h1
  have o1 : True := trivial
  obtain ⟨x2, rfl, o2⟩ := fit_i64 Try.underlying3 h2
  obtain ⟨x3, rfl, o3⟩ := fit_i64 Try.underlying3 h3
  obtain ⟨x4, rfl⟩ := fit_bool Try.underlying4 h4
  have o4 : True := trivial
  exact ⟨⟨x0, x1, x2, x3, x4⟩, rfl, o0, o1, o2, o3, o4⟩
/-- 'Expr'. -/
structure Expr where
  op : Int
  n : Int
  s : List UInt8
  args : List V
abbrev Expr.cells (x : Expr) : List V := [.i .i64 x.op, .i .i64 x.n, .s x.s, .l x.args]
abbrev Expr.v (x : Expr) : V := .a ([.i .i64 x.op, .i .i64 x.n, .s x.s, .l x.args])
def Expr.ok (x : Expr) : Prop := I64 x.op ∧ I64 x.n ∧ x.s.length ≤ maxLen ∧ x.args.length ≤ maxLen
@[simp] theorem Expr.all_len (l : List Expr) : (encL Expr.v l).all (fun x => x.cells.length == 4) = true := encL_all fun _ => rfl
@[simp] theorem Expr.len_all (l : List Expr) : (∀ x ∈ encL Expr.v l, x.cells.length = 4) = True := encL_len fun _ => rfl
set_option maxRecDepth 100000 in
theorem fitT54 {n : Nat} {ys : List V} (h : Fit Try.prog (n + 2) 54 ys) : ∃ x : Expr, ys = x.cells ∧ x.ok := by
  unfold Fit at h
  rw [Try.underlying54] at h
  simp only [List.foldr_cons, List.foldr_nil] at h
  obtain ⟨a0, b0, rfl, h0, a1, b1, rfl, h1, a2, b2, rfl, h2, a3, b3, rfl, h3, rfl⟩ := h
  obtain ⟨x0, rfl, o0⟩ := fit_i64 Try.underlying3 h0
  obtain ⟨x1, rfl, o1⟩ := fit_i64 Try.underlying3 h1
  obtain ⟨x2, rfl, o2⟩ := VM.fit_string Try.underlying9 h2
  obtain ⟨x3, rfl, o3, _⟩ := fit_slice Try.underlying52 h3
  exact ⟨⟨x0, x1, x2, x3⟩, rfl, o0, o1, o2, o3⟩
/-- 'Fee'. -/
structure Fee where
  name : List UInt8
  event : Int
  when : Expr
  amount : Expr
abbrev Fee.cells (x : Fee) : List V := [.s x.name, .i .i64 x.event, .i .i64 x.when.op, .i .i64 x.when.n, .s x.when.s, .l x.when.args, .i .i64 x.amount.op, .i .i64 x.amount.n, .s x.amount.s, .l x.amount.args]
abbrev Fee.v (x : Fee) : V := .a ([.s x.name, .i .i64 x.event, .i .i64 x.when.op, .i .i64 x.when.n, .s x.when.s, .l x.when.args, .i .i64 x.amount.op, .i .i64 x.amount.n, .s x.amount.s, .l x.amount.args])
def Fee.ok (x : Fee) : Prop := x.name.length ≤ maxLen ∧ I64 x.event ∧ x.when.ok ∧ x.amount.ok
@[simp] theorem Fee.all_len (l : List Fee) : (encL Fee.v l).all (fun x => x.cells.length == 10) = true := encL_all fun _ => rfl
@[simp] theorem Fee.len_all (l : List Fee) : (∀ x ∈ encL Fee.v l, x.cells.length = 10) = True := encL_len fun _ => rfl
set_option maxRecDepth 100000 in
theorem fitT56 {n : Nat} {ys : List V} (h : Fit Try.prog (n + 3) 56 ys) : ∃ x : Fee, ys = x.cells ∧ x.ok := by
  unfold Fit at h
  rw [Try.underlying56] at h
  simp only [List.foldr_cons, List.foldr_nil] at h
  obtain ⟨a0, b0, rfl, h0, a1, b1, rfl, h1, a2, b2, rfl, h2, a3, b3, rfl, h3, rfl⟩ := h
  obtain ⟨x0, rfl, o0⟩ := VM.fit_string Try.underlying9 h0
  obtain ⟨x1, rfl, o1⟩ := fit_i64 Try.underlying3 h1
  obtain ⟨x2, rfl, o2⟩ := fitT54 h2
  obtain ⟨x3, rfl, o3⟩ := fitT54 h3
  exact ⟨⟨x0, x1, x2, x3⟩, rfl, o0, o1, o2, o3⟩
/-- 'Rule'. -/
structure Rule where
  name : List UInt8
  window : Int
  amount : Expr
abbrev Rule.cells (x : Rule) : List V := [.s x.name, .i .i64 x.window, .i .i64 x.amount.op, .i .i64 x.amount.n, .s x.amount.s, .l x.amount.args]
abbrev Rule.v (x : Rule) : V := .a ([.s x.name, .i .i64 x.window, .i .i64 x.amount.op, .i .i64 x.amount.n, .s x.amount.s, .l x.amount.args])
def Rule.ok (x : Rule) : Prop := x.name.length ≤ maxLen ∧ I64 x.window ∧ x.amount.ok
@[simp] theorem Rule.all_len (l : List Rule) : (encL Rule.v l).all (fun x => x.cells.length == 6) = true := encL_all fun _ => rfl
@[simp] theorem Rule.len_all (l : List Rule) : (∀ x ∈ encL Rule.v l, x.cells.length = 6) = True := encL_len fun _ => rfl
set_option maxRecDepth 100000 in
theorem fitT58 {n : Nat} {ys : List V} (h : Fit Try.prog (n + 3) 58 ys) : ∃ x : Rule, ys = x.cells ∧ x.ok := by
  unfold Fit at h
  rw [Try.underlying58] at h
  simp only [List.foldr_cons, List.foldr_nil] at h
  obtain ⟨a0, b0, rfl, h0, a1, b1, rfl, h1, a2, b2, rfl, h2, rfl⟩ := h
  obtain ⟨x0, rfl, o0⟩ := VM.fit_string Try.underlying9 h0
  obtain ⟨x1, rfl, o1⟩ := fit_i64 Try.underlying3 h1
  obtain ⟨x2, rfl, o2⟩ := fitT54 h2
  exact ⟨⟨x0, x1, x2⟩, rfl, o0, o1, o2⟩
set_option maxRecDepth 100000 in
theorem fitS30 {n : Nat} {ys : List V} (h : Fit Try.prog (n + 4) 30 ys) : ∃ l : List Fee, ys = [.l (encL Fee.v l)] ∧ l.length ≤ maxLen ∧ ∀ y ∈ l, y.ok :=
  fit_list Try.underlying30 (fun _ h => fit_agg (by kernel_rfl) (fitT56 h)) h
set_option maxRecDepth 100000 in
theorem fitS31 {n : Nat} {ys : List V} (h : Fit Try.prog (n + 4) 31 ys) : ∃ l : List Rule, ys = [.l (encL Rule.v l)] ∧ l.length ≤ maxLen ∧ ∀ y ∈ l, y.ok :=
  fit_list Try.underlying31 (fun _ h => fit_agg (by kernel_rfl) (fitT58 h)) h
/-- 'Product'. -/
structure Product where
  name : List UInt8
  currency : List UInt8
  calendar : List UInt8
  from' : Int
  every : Int
  overdraft : Int
  taxPpm : Int
  credit : Interest
  debit : Interest
  fees : List Fee
  rules : List Rule
/-- What stands behind a version's first day. -/
def Product.rest (x : Product) : List V := [.i .i64 x.every, .i .i64 x.overdraft, .i .i64 x.taxPpm, .l (encL Tier.v x.credit.tiers), .b x.credit.marginal, .i .i64 x.credit.basis, .i .i64 x.credit.mode', .b x.credit.keep, .l (encL Tier.v x.debit.tiers), .b x.debit.marginal, .i .i64 x.debit.basis, .i .i64 x.debit.mode', .b x.debit.keep, .l (encL Fee.v x.fees), .l (encL Rule.v x.rules)]
@[simp] theorem Product.rest_length (x : Product) : x.rest.length = 15 := rfl
@[simp] theorem Product.rest_cell (x : Product) : (∀ y ∈ x.rest, V.cell y = true) = True := by simp [Product.rest]
@[simp] theorem Product.rest_all (x : Product) : x.rest.all V.cell = true := by simp [Product.rest]
abbrev Product.cells (x : Product) : List V := .s x.name :: .s x.currency :: .s x.calendar :: .i .i64 x.from' :: x.rest
abbrev Product.v (x : Product) : V := .a (.s x.name :: .s x.currency :: .s x.calendar :: .i .i64 x.from' :: x.rest)
def Product.ok (x : Product) : Prop := x.name.length ≤ maxLen ∧ x.currency.length ≤ maxLen ∧ x.calendar.length ≤ maxLen ∧ I64 x.from' ∧ I64 x.every ∧ I64 x.overdraft ∧ I64 x.taxPpm ∧ x.credit.ok ∧ x.debit.ok ∧ (x.fees.length ≤ maxLen ∧ ∀ y ∈ x.fees, y.ok) ∧ (x.rules.length ≤ maxLen ∧ ∀ y ∈ x.rules, y.ok)
@[simp] theorem Product.all_len (l : List Product) : (encL Product.v l).all (fun x => x.cells.length == 19) = true := encL_all fun _ => rfl
@[simp] theorem Product.len_all (l : List Product) : (∀ x ∈ encL Product.v l, x.cells.length = 19) = True := encL_len fun _ => rfl
set_option maxRecDepth 100000 in
theorem fitT33 {n : Nat} {ys : List V} (h : Fit Try.prog (n + 5) 33 ys) : ∃ x : Product, ys = x.cells ∧ x.ok := by
  unfold Fit at h
  rw [Try.underlying33] at h
  simp only [List.foldr_cons, List.foldr_nil] at h
  obtain ⟨a0, b0, rfl, h0, a1, b1, rfl, h1, a2, b2, rfl, h2, a3, b3, rfl, h3, a4, b4, rfl, h4, a5, b5, rfl, h5, a6, b6, rfl, h6, a7, b7, rfl, h7, a8, b8, rfl, h8, a9, b9, rfl, h9, a10, b10, rfl, h10, rfl⟩ := h
  obtain ⟨x0, rfl, o0⟩ := VM.fit_string Try.underlying9 h0
  obtain ⟨x1, rfl, o1⟩ := VM.fit_string Try.underlying9 h1
  obtain ⟨x2, rfl, o2⟩ := VM.fit_string Try.underlying9 h2
  obtain ⟨x3, rfl, o3⟩ := fit_i64 Try.underlying3 h3
  obtain ⟨x4, rfl, o4⟩ := fit_i64 Try.underlying3 h4
  obtain ⟨x5, rfl, o5⟩ := fit_i64 Try.underlying3 h5
  obtain ⟨x6, rfl, o6⟩ := fit_i64 Try.underlying3 h6
  obtain ⟨x7, rfl, o7⟩ := fitT29 h7
  obtain ⟨x8, rfl, o8⟩ := fitT29 h8
  obtain ⟨x9, rfl, o9⟩ := fitS30 h9
  obtain ⟨x10, rfl, o10⟩ := fitS31 h10
  exact ⟨⟨x0, x1, x2, x3, x4, x5, x6, x7, x8, x9, x10⟩, rfl, o0, o1, o2, o3, o4, o5, o6, o7, o8, o9, o10⟩
/-- 'Span'. -/
structure Span where
  from' : Int
  to' : Int
  deriving DecidableEq
abbrev Span.cells (x : Span) : List V := [.i .i64 x.from', .i .i64 x.to']
abbrev Span.v (x : Span) : V := .a ([.i .i64 x.from', .i .i64 x.to'])
def Span.ok (x : Span) : Prop := I64 x.from' ∧ I64 x.to'
@[simp] theorem Span.all_len (l : List Span) : (encL Span.v l).all (fun x => x.cells.length == 2) = true := encL_all fun _ => rfl
@[simp] theorem Span.len_all (l : List Span) : (∀ x ∈ encL Span.v l, x.cells.length = 2) = True := encL_len fun _ => rfl
set_option maxRecDepth 100000 in
theorem fitT46 {n : Nat} {ys : List V} (h : Fit Try.prog (n + 2) 46 ys) : ∃ x : Span, ys = x.cells ∧ x.ok := by
  unfold Fit at h
  rw [Try.underlying46] at h
  simp only [List.foldr_cons, List.foldr_nil] at h
  obtain ⟨a0, b0, rfl, h0, a1, b1, rfl, h1, rfl⟩ := h
  obtain ⟨x0, rfl, o0⟩ := fit_i64 Try.underlying3 h0
  obtain ⟨x1, rfl, o1⟩ := fit_i64 Try.underlying3 h1
  exact ⟨⟨x0, x1⟩, rfl, o0, o1⟩
set_option maxRecDepth 100000 in
theorem fitS22 {n : Nat} {ys : List V} (h : Fit Try.prog (n + 6) 22 ys) : ∃ l : List Product, ys = [.l (encL Product.v l)] ∧ l.length ≤ maxLen ∧ ∀ y ∈ l, y.ok :=
  fit_list Try.underlying22 (fun _ h => fit_agg (by kernel_rfl) (fitT33 h)) h
set_option maxRecDepth 100000 in
theorem pack22 (x : V) : packT Try.prog 22 [x] = x := pack_one (by kernel_rfl) x
set_option maxRecDepth 100000 in
theorem pack33 (ys : List V) : packT Try.prog 33 ys = .a ys := pack_agg (by kernel_rfl) ys
set_option maxRecDepth 100000 in
theorem pack9 (x : V) : packT Try.prog 9 [x] = x := pack_one (by kernel_rfl) x
set_option maxRecDepth 100000 in
theorem pack3 (x : V) : packT Try.prog 3 [x] = x := pack_one (by kernel_rfl) x
set_option maxRecDepth 100000 in
theorem pack46 (ys : List V) : packT Try.prog 46 ys = .a ys := pack_agg (by kernel_rfl) ys
end Go.Proofs.Ytlmbgmobghmmmaa
