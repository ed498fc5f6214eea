/-
  The plain data of the laws arguments: printed by a program of ours off the translation.
-/
import Derived.Test.YtdlpbedneamebaaGreatDoorCode
import Derived.Test.YtdlpbedneamebaaGreatDoorVmN
namespace Go.Proofs.YtdlpbedneamebaaGreatDoor
open Go.VM
set_option maxRecDepth 100000
structure Currency where
  code : List UInt8
  digits : Int
  deriving DecidableEq
abbrev Currency.cells (x : Currency) : List V := [.s x.code, .i .i64 x.digits]
abbrev Currency.v (x : Currency) : V := .a ([.s x.code, .i .i64 x.digits])
def Currency.ok (x : Currency) : Prop := x.code.length ≤ maxLen ∧ I64 x.digits
@[simp] theorem Currency.all_len (l : List Currency) : (encL Currency.v l).all (fun x => x.cells.length == 2) = true := encL_all fun _ => rfl
@[simp] theorem Currency.len_all (l : List Currency) : (∀ x ∈ encL Currency.v l, x.cells.length = 2) = True := encL_len fun _ => rfl
theorem fitT52 {n : Nat} {ys : List V} (h : Fit Tryz.prog (n + 2) 52 ys) : ∃ x : Currency, ys = x.cells ∧ x.ok := by
  unfold Fit at h
  rw [Tryz.underlying52] at h
  simp only [List.foldr_cons, List.foldr_nil] at h
  obtain ⟨a0, b0, rfl, h0, a1, b1, rfl, h1, rfl⟩ := h
  obtain ⟨x0, rfl, o0⟩ := VM.fit_string Tryz.underlying9 h0
  obtain ⟨x1, rfl, o1⟩ := fit_i64 Tryz.underlying3 h1
  exact ⟨⟨x0, x1⟩, rfl, o0, o1⟩
theorem fitS39 {n : Nat} {ys : List V} (h : Fit Tryz.prog (n + 2) 39 ys) : ∃ l : List Int, ys = [.l (encL (V.i .i64) l)] ∧ l.length ≤ maxLen ∧ ∀ y ∈ l, I64 y :=
  fit_list Tryz.underlying39 (fun _ h => fit_one (by kernel_rfl) (fit_i64 Tryz.underlying3 h)) h
structure Calendar where
  name : List UInt8
  weekend : List Int
  holidays : List Int
  deriving DecidableEq
abbrev Calendar.cells (x : Calendar) : List V := [.s x.name, .l (encL (V.i .i64) x.weekend), .l (encL (V.i .i64) x.holidays)]
abbrev Calendar.v (x : Calendar) : V := .a ([.s x.name, .l (encL (V.i .i64) x.weekend), .l (encL (V.i .i64) x.holidays)])
def Calendar.ok (x : Calendar) : Prop := x.name.length ≤ maxLen ∧ (x.weekend.length ≤ maxLen ∧ ∀ y ∈ x.weekend, I64 y) ∧ (x.holidays.length ≤ maxLen ∧ ∀ y ∈ x.holidays, I64 y)
@[simp] theorem Calendar.all_len (l : List Calendar) : (encL Calendar.v l).all (fun x => x.cells.length == 3) = true := encL_all fun _ => rfl
@[simp] theorem Calendar.len_all (l : List Calendar) : (∀ x ∈ encL Calendar.v l, x.cells.length = 3) = True := encL_len fun _ => rfl
theorem fitT94 {n : Nat} {ys : List V} (h : Fit Tryz.prog (n + 3) 94 ys) : ∃ x : Calendar, ys = x.cells ∧ x.ok := by
  unfold Fit at h
  rw [Tryz.underlying94] at h
  simp only [List.foldr_cons, List.foldr_nil] at h
  obtain ⟨a0, b0, rfl, h0, a1, b1, rfl, h1, a2, b2, rfl, h2, rfl⟩ := h
  obtain ⟨x0, rfl, o0⟩ := VM.fit_string Tryz.underlying9 h0
  obtain ⟨x1, rfl, o1⟩ := fitS39 h1
  obtain ⟨x2, rfl, o2⟩ := fitS39 h2
  exact ⟨⟨x0, x1, x2⟩, rfl, o0, o1, o2⟩
structure Gl where
  id : Int
  parent : Int
  kind : Int
  name : List UInt8
  deriving DecidableEq
abbrev Gl.cells (x : Gl) : List V := [.i .i64 x.id, .i .i64 x.parent, .i .i64 x.kind, .s x.name]
abbrev Gl.v (x : Gl) : V := .a ([.i .i64 x.id, .i .i64 x.parent, .i .i64 x.kind, .s x.name])
def Gl.ok (x : Gl) : Prop := I64 x.id ∧ I64 x.parent ∧ I64 x.kind ∧ x.name.length ≤ maxLen
@[simp] theorem Gl.all_len (l : List Gl) : (encL Gl.v l).all (fun x => x.cells.length == 4) = true := encL_all fun _ => rfl
@[simp] theorem Gl.len_all (l : List Gl) : (∀ x ∈ encL Gl.v l, x.cells.length = 4) = True := encL_len fun _ => rfl
theorem fitT38 {n : Nat} {ys : List V} (h : Fit Tryz.prog (n + 2) 38 ys) : ∃ x : Gl, ys = x.cells ∧ x.ok := by
  unfold Fit at h
  rw [Tryz.underlying38] at h
  simp only [List.foldr_cons, List.foldr_nil] at h
  obtain ⟨a0, b0, rfl, h0, a1, b1, rfl, h1, a2, b2, rfl, h2, a3, b3, rfl, h3, rfl⟩ := h
  obtain ⟨x0, rfl, o0⟩ := fit_i64 Tryz.underlying3 h0
  obtain ⟨x1, rfl, o1⟩ := fit_i64 Tryz.underlying3 h1
  obtain ⟨x2, rfl, o2⟩ := fit_i64 Tryz.underlying3 h2
  obtain ⟨x3, rfl, o3⟩ := VM.fit_string Tryz.underlying9 h3
  exact ⟨⟨x0, x1, x2, x3⟩, rfl, o0, o1, o2, o3⟩
structure Plan where
  cash : Int
  deposits : Int
  interestPaid : Int
  interestEarned : Int
  feeEarned : Int
  tax : Int
  clearing : Int
  loans : Int
  loanInterest : Int
  penalty : Int
  provision : Int
  provisionCost : Int
  loss : Int
  recovery : Int
  deriving DecidableEq
abbrev Plan.cells (x : Plan) : List V := [.i .i64 x.cash, .i .i64 x.deposits, .i .i64 x.interestPaid, .i .i64 x.interestEarned, .i .i64 x.feeEarned, .i .i64 x.tax, .i .i64 x.clearing, .i .i64 x.loans, .i .i64 x.loanInterest, .i .i64 x.penalty, .i .i64 x.provision, .i .i64 x.provisionCost, .i .i64 x.loss, .i .i64 x.recovery]
abbrev Plan.v (x : Plan) : V := .a ([.i .i64 x.cash, .i .i64 x.deposits, .i .i64 x.interestPaid, .i .i64 x.interestEarned, .i .i64 x.feeEarned, .i .i64 x.tax, .i .i64 x.clearing, .i .i64 x.loans, .i .i64 x.loanInterest, .i .i64 x.penalty, .i .i64 x.provision, .i .i64 x.provisionCost, .i .i64 x.loss, .i .i64 x.recovery])
def Plan.ok (x : Plan) : Prop := I64 x.cash ∧ I64 x.deposits ∧ I64 x.interestPaid ∧ I64 x.interestEarned ∧ I64 x.feeEarned ∧ I64 x.tax ∧ I64 x.clearing ∧ I64 x.loans ∧ I64 x.loanInterest ∧ I64 x.penalty ∧ I64 x.provision ∧ I64 x.provisionCost ∧ I64 x.loss ∧ I64 x.recovery
@[simp] theorem Plan.all_len (l : List Plan) : (encL Plan.v l).all (fun x => x.cells.length == 14) = true := encL_all fun _ => rfl
@[simp] theorem Plan.len_all (l : List Plan) : (∀ x ∈ encL Plan.v l, x.cells.length = 14) = True := encL_len fun _ => rfl
theorem fitT26 {n : Nat} {ys : List V} (h : Fit Tryz.prog (n + 2) 26 ys) : ∃ x : Plan, ys = x.cells ∧ x.ok := by
  unfold Fit at h
  rw [Tryz.underlying26] at h
  simp only [List.foldr_cons, List.foldr_nil] at h
  obtain ⟨a0, b0, rfl, h0, a1, b1, rfl, h1, a2, b2, rfl, h2, a3, b3, rfl, h3, a4, b4, rfl, h4, a5, b5, rfl, h5, a6, b6, rfl, h6, a7, b7, rfl, h7, a8, b8, rfl, h8, a9, b9, rfl, h9, a10, b10, rfl, h10, a11, b11, rfl, h11, a12, b12, rfl, h12, a13, b13, rfl, h13, rfl⟩ := h
  obtain ⟨x0, rfl, o0⟩ := fit_i64 Tryz.underlying3 h0
  obtain ⟨x1, rfl, o1⟩ := fit_i64 Tryz.underlying3 h1
  obtain ⟨x2, rfl, o2⟩ := fit_i64 Tryz.underlying3 h2
  obtain ⟨x3, rfl, o3⟩ := fit_i64 Tryz.underlying3 h3
  obtain ⟨x4, rfl, o4⟩ := fit_i64 Tryz.underlying3 h4
  obtain ⟨x5, rfl, o5⟩ := fit_i64 Tryz.underlying3 h5
  obtain ⟨x6, rfl, o6⟩ := fit_i64 Tryz.underlying3 h6
  obtain ⟨x7, rfl, o7⟩ := fit_i64 Tryz.underlying3 h7
  obtain ⟨x8, rfl, o8⟩ := fit_i64 Tryz.underlying3 h8
  obtain ⟨x9, rfl, o9⟩ := fit_i64 Tryz.underlying3 h9
  obtain ⟨x10, rfl, o10⟩ := fit_i64 Tryz.underlying3 h10
  obtain ⟨x11, rfl, o11⟩ := fit_i64 Tryz.underlying3 h11
  obtain ⟨x12, rfl, o12⟩ := fit_i64 Tryz.underlying3 h12
  obtain ⟨x13, rfl, o13⟩ := fit_i64 Tryz.underlying3 h13
  exact ⟨⟨x0, x1, x2, x3, x4, x5, x6, x7, x8, x9, x10, x11, x12, x13⟩, rfl, o0, o1, o2, o3, o4, o5, o6, o7, o8, o9, o10, o11, o12, o13⟩
structure Tier where
  from' : Int
  ppm : Int
  deriving DecidableEq
abbrev Tier.cells (x : Tier) : List V := [.i .i64 x.from', .i .i64 x.ppm]
abbrev Tier.v (x : Tier) : V := .a ([.i .i64 x.from', .i .i64 x.ppm])
def Tier.ok (x : Tier) : Prop := I64 x.from' ∧ I64 x.ppm
@[simp] theorem Tier.all_len (l : List Tier) : (encL Tier.v l).all (fun x => x.cells.length == 2) = true := encL_all fun _ => rfl
@[simp] theorem Tier.len_all (l : List Tier) : (∀ x ∈ encL Tier.v l, x.cells.length = 2) = True := encL_len fun _ => rfl
theorem fitT107 {n : Nat} {ys : List V} (h : Fit Tryz.prog (n + 2) 107 ys) : ∃ x : Tier, ys = x.cells ∧ x.ok := by
  unfold Fit at h
  rw [Tryz.underlying107] at h
  simp only [List.foldr_cons, List.foldr_nil] at h
  obtain ⟨a0, b0, rfl, h0, a1, b1, rfl, h1, rfl⟩ := h
  obtain ⟨x0, rfl, o0⟩ := fit_i64 Tryz.underlying3 h0
  obtain ⟨x1, rfl, o1⟩ := fit_i64 Tryz.underlying3 h1
  exact ⟨⟨x0, x1⟩, rfl, o0, o1⟩
theorem fitS108 {n : Nat} {ys : List V} (h : Fit Tryz.prog (n + 3) 108 ys) : ∃ l : List Tier, ys = [.l (encL Tier.v l)] ∧ l.length ≤ maxLen ∧ ∀ y ∈ l, y.ok :=
  fit_list Tryz.underlying108 (fun _ h => fit_agg (by kernel_rfl) (fitT107 h)) h
structure Interest where
  tiers : List Tier
  marginal : Bool
  basis : Int
  mode' : Int
  keep : Bool
  deriving DecidableEq
abbrev Interest.cells (x : Interest) : List V := [.l (encL Tier.v x.tiers), .b x.marginal, .i .i64 x.basis, .i .i64 x.mode', .b x.keep]
abbrev Interest.v (x : Interest) : V := .a ([.l (encL Tier.v x.tiers), .b x.marginal, .i .i64 x.basis, .i .i64 x.mode', .b x.keep])
def Interest.ok (x : Interest) : Prop := (x.tiers.length ≤ maxLen ∧ ∀ y ∈ x.tiers, y.ok) ∧ True ∧ I64 x.basis ∧ I64 x.mode' ∧ True
@[simp] theorem Interest.all_len (l : List Interest) : (encL Interest.v l).all (fun x => x.cells.length == 5) = true := encL_all fun _ => rfl
@[simp] theorem Interest.len_all (l : List Interest) : (∀ x ∈ encL Interest.v l, x.cells.length = 5) = True := encL_len fun _ => rfl
theorem fitT110 {n : Nat} {ys : List V} (h : Fit Tryz.prog (n + 4) 110 ys) : ∃ x : Interest, ys = x.cells ∧ x.ok := by
  unfold Fit at h
  rw [Tryz.underlying110] at h
  simp only [List.foldr_cons, List.foldr_nil] at h
  obtain ⟨a0, b0, rfl, h0, a1, b1, rfl, h1, a2, b2, rfl, h2, a3, b3, rfl, h3, a4, b4, rfl, h4, rfl⟩ := h
  obtain ⟨x0, rfl, o0⟩ := fitS108 h0
  obtain ⟨x1, rfl⟩ := fit_bool Tryz.underlying4 h1
  have o1 : True := trivial
  obtain ⟨x2, rfl, o2⟩ := fit_i64 Tryz.underlying3 h2
  obtain ⟨x3, rfl, o3⟩ := fit_i64 Tryz.underlying3 h3
  obtain ⟨x4, rfl⟩ := fit_bool Tryz.underlying4 h4
  have o4 : True := trivial
  exact ⟨⟨x0, x1, x2, x3, x4⟩, rfl, o0, o1, o2, o3, o4⟩
def exT : Nat → List V → Prop
  | 0, _ => True
  | n + 1, ys => ∃ op k s args, ys = [.i .i64 op, .i .i64 k, .s s, .l args] ∧ args.length ≤ maxLen ∧ ∀ y ∈ args, ∃ zs, y = .a zs ∧ exT n zs
theorem fit_ex : ∀ (m n : Nat) {ys : List V}, Fit Tryz.prog (n + 2 * m) 198 ys → exT m ys
  | 0, _, _, _ => trivial
  | m + 1, n, ys, h => by
    rw [show n + 2 * (m + 1) = n + 2 * m + 1 + 1 from by omega] at h
    unfold Fit at h
    rw [Tryz.underlying198] at h
    simp only [List.foldr_cons, List.foldr_nil] at h
    obtain ⟨a0, b0, rfl, h0, a1, b1, rfl, h1, a2, b2, rfl, h2, a3, b3, rfl, h3, rfl⟩ := h
    obtain ⟨x0, rfl, _⟩ := fit_i64 Tryz.underlying3 h0
    obtain ⟨x1, rfl, _⟩ := fit_i64 Tryz.underlying3 h1
    obtain ⟨x2, rfl, _⟩ := VM.fit_string Tryz.underlying9 h2
    obtain ⟨x3, rfl, o3, o4⟩ := fit_slice Tryz.underlying196 h3
    refine ⟨x0, x1, x2, x3, rfl, o3, fun y hy => ?_⟩
    obtain ⟨zs, hz, he⟩ := o4 y hy
    rw [if_pos (by kernel_rfl : isAggB Tryz.prog 198 = true)] at he
    exact ⟨zs, he, fit_ex m n hz⟩
structure Expr where
  op : Int
  n : Int
  s : List UInt8
  args : List V
abbrev Expr.cells (x : Expr) : List V := [.i .i64 x.op, .i .i64 x.n, .s x.s, .l x.args]
abbrev Expr.v (x : Expr) : V := .a ([.i .i64 x.op, .i .i64 x.n, .s x.s, .l x.args])
def Expr.ok (x : Expr) : Prop := I64 x.op ∧ I64 x.n ∧ x.s.length ≤ maxLen ∧ x.args.length ≤ maxLen ∧ exT 102 x.cells
@[simp] theorem Expr.all_len (l : List Expr) : (encL Expr.v l).all (fun x => x.cells.length == 4) = true := encL_all fun _ => rfl
@[simp] theorem Expr.len_all (l : List Expr) : (∀ x ∈ encL Expr.v l, x.cells.length = 4) = True := encL_len fun _ => rfl
theorem fitT198 {n : Nat} {ys : List V} (h : Fit Tryz.prog (n + 300) 198 ys) : ∃ x : Expr, ys = x.cells ∧ x.ok := by
  have hx := fit_ex 102 (n + 96) h
  unfold Fit at h
  rw [Tryz.underlying198] at h
  simp only [List.foldr_cons, List.foldr_nil] at h
  obtain ⟨a0, b0, rfl, h0, a1, b1, rfl, h1, a2, b2, rfl, h2, a3, b3, rfl, h3, rfl⟩ := h
  obtain ⟨x0, rfl, o0⟩ := fit_i64 Tryz.underlying3 h0
  obtain ⟨x1, rfl, o1⟩ := fit_i64 Tryz.underlying3 h1
  obtain ⟨x2, rfl, o2⟩ := VM.fit_string Tryz.underlying9 h2
  obtain ⟨x3, rfl, o3, _⟩ := fit_slice Tryz.underlying196 h3
  exact ⟨⟨x0, x1, x2, x3⟩, rfl, o0, o1, o2, o3, hx⟩
structure Fee where
  name : List UInt8
  event : Int
  when : Expr
  amount : Expr
abbrev Fee.cells (x : Fee) : List V := [.s x.name, .i .i64 x.event, .i .i64 x.when.op, .i .i64 x.when.n, .s x.when.s, .l x.when.args, .i .i64 x.amount.op, .i .i64 x.amount.n, .s x.amount.s, .l x.amount.args]
abbrev Fee.v (x : Fee) : V := .a ([.s x.name, .i .i64 x.event, .i .i64 x.when.op, .i .i64 x.when.n, .s x.when.s, .l x.when.args, .i .i64 x.amount.op, .i .i64 x.amount.n, .s x.amount.s, .l x.amount.args])
def Fee.ok (x : Fee) : Prop := x.name.length ≤ maxLen ∧ I64 x.event ∧ x.when.ok ∧ x.amount.ok
@[simp] theorem Fee.all_len (l : List Fee) : (encL Fee.v l).all (fun x => x.cells.length == 10) = true := encL_all fun _ => rfl
@[simp] theorem Fee.len_all (l : List Fee) : (∀ x ∈ encL Fee.v l, x.cells.length = 10) = True := encL_len fun _ => rfl
theorem fitT200 {n : Nat} {ys : List V} (h : Fit Tryz.prog (n + 301) 200 ys) : ∃ x : Fee, ys = x.cells ∧ x.ok := by
  unfold Fit at h
  rw [Tryz.underlying200] at h
  simp only [List.foldr_cons, List.foldr_nil] at h
  obtain ⟨a0, b0, rfl, h0, a1, b1, rfl, h1, a2, b2, rfl, h2, a3, b3, rfl, h3, rfl⟩ := h
  obtain ⟨x0, rfl, o0⟩ := VM.fit_string Tryz.underlying9 h0
  obtain ⟨x1, rfl, o1⟩ := fit_i64 Tryz.underlying3 h1
  obtain ⟨x2, rfl, o2⟩ := fitT198 h2
  obtain ⟨x3, rfl, o3⟩ := fitT198 h3
  exact ⟨⟨x0, x1, x2, x3⟩, rfl, o0, o1, o2, o3⟩
structure Rule where
  name : List UInt8
  window : Int
  amount : Expr
abbrev Rule.cells (x : Rule) : List V := [.s x.name, .i .i64 x.window, .i .i64 x.amount.op, .i .i64 x.amount.n, .s x.amount.s, .l x.amount.args]
abbrev Rule.v (x : Rule) : V := .a ([.s x.name, .i .i64 x.window, .i .i64 x.amount.op, .i .i64 x.amount.n, .s x.amount.s, .l x.amount.args])
def Rule.ok (x : Rule) : Prop := x.name.length ≤ maxLen ∧ I64 x.window ∧ x.amount.ok
@[simp] theorem Rule.all_len (l : List Rule) : (encL Rule.v l).all (fun x => x.cells.length == 6) = true := encL_all fun _ => rfl
@[simp] theorem Rule.len_all (l : List Rule) : (∀ x ∈ encL Rule.v l, x.cells.length = 6) = True := encL_len fun _ => rfl
theorem fitT203 {n : Nat} {ys : List V} (h : Fit Tryz.prog (n + 301) 203 ys) : ∃ x : Rule, ys = x.cells ∧ x.ok := by
  unfold Fit at h
  rw [Tryz.underlying203] at h
  simp only [List.foldr_cons, List.foldr_nil] at h
  obtain ⟨a0, b0, rfl, h0, a1, b1, rfl, h1, a2, b2, rfl, h2, rfl⟩ := h
  obtain ⟨x0, rfl, o0⟩ := VM.fit_string Tryz.underlying9 h0
  obtain ⟨x1, rfl, o1⟩ := fit_i64 Tryz.underlying3 h1
  obtain ⟨x2, rfl, o2⟩ := fitT198 h2
  exact ⟨⟨x0, x1, x2⟩, rfl, o0, o1, o2⟩
theorem fitS111 {n : Nat} {ys : List V} (h : Fit Tryz.prog (n + 302) 111 ys) : ∃ l : List Fee, ys = [.l (encL Fee.v l)] ∧ l.length ≤ maxLen ∧ ∀ y ∈ l, y.ok :=
  fit_list Tryz.underlying111 (fun _ h => fit_agg (by kernel_rfl) (fitT200 h)) h
theorem fitS112 {n : Nat} {ys : List V} (h : Fit Tryz.prog (n + 302) 112 ys) : ∃ l : List Rule, ys = [.l (encL Rule.v l)] ∧ l.length ≤ maxLen ∧ ∀ y ∈ l, y.ok :=
  fit_list Tryz.underlying112 (fun _ h => fit_agg (by kernel_rfl) (fitT203 h)) h
structure Product where
  name : List UInt8
  currency : List UInt8
  calendar : List UInt8
  from' : Int
  every : Int
  overdraft : Int
  taxPpm : Int
  credit : Interest
  debit : Interest
  fees : List Fee
  rules : List Rule
abbrev Product.cells (x : Product) : List V := [.s x.name, .s x.currency, .s x.calendar, .i .i64 x.from', .i .i64 x.every, .i .i64 x.overdraft, .i .i64 x.taxPpm, .l (encL Tier.v x.credit.tiers), .b x.credit.marginal, .i .i64 x.credit.basis, .i .i64 x.credit.mode', .b x.credit.keep, .l (encL Tier.v x.debit.tiers), .b x.debit.marginal, .i .i64 x.debit.basis, .i .i64 x.debit.mode', .b x.debit.keep, .l (encL Fee.v x.fees), .l (encL Rule.v x.rules)]
abbrev Product.v (x : Product) : V := .a ([.s x.name, .s x.currency, .s x.calendar, .i .i64 x.from', .i .i64 x.every, .i .i64 x.overdraft, .i .i64 x.taxPpm, .l (encL Tier.v x.credit.tiers), .b x.credit.marginal, .i .i64 x.credit.basis, .i .i64 x.credit.mode', .b x.credit.keep, .l (encL Tier.v x.debit.tiers), .b x.debit.marginal, .i .i64 x.debit.basis, .i .i64 x.debit.mode', .b x.debit.keep, .l (encL Fee.v x.fees), .l (encL Rule.v x.rules)])
def Product.ok (x : Product) : Prop := x.name.length ≤ maxLen ∧ x.currency.length ≤ maxLen ∧ x.calendar.length ≤ maxLen ∧ I64 x.from' ∧ I64 x.every ∧ I64 x.overdraft ∧ I64 x.taxPpm ∧ x.credit.ok ∧ x.debit.ok ∧ (x.fees.length ≤ maxLen ∧ ∀ y ∈ x.fees, y.ok) ∧ (x.rules.length ≤ maxLen ∧ ∀ y ∈ x.rules, y.ok)
@[simp] theorem Product.all_len (l : List Product) : (encL Product.v l).all (fun x => x.cells.length == 19) = true := encL_all fun _ => rfl
@[simp] theorem Product.len_all (l : List Product) : (∀ x ∈ encL Product.v l, x.cells.length = 19) = True := encL_len fun _ => rfl
theorem fitT114 {n : Nat} {ys : List V} (h : Fit Tryz.prog (n + 303) 114 ys) : ∃ x : Product, ys = x.cells ∧ x.ok := by
  unfold Fit at h
  rw [Tryz.underlying114] at h
  simp only [List.foldr_cons, List.foldr_nil] at h
  obtain ⟨a0, b0, rfl, h0, a1, b1, rfl, h1, a2, b2, rfl, h2, a3, b3, rfl, h3, a4, b4, rfl, h4, a5, b5, rfl, h5, a6, b6, rfl, h6, a7, b7, rfl, h7, a8, b8, rfl, h8, a9, b9, rfl, h9, a10, b10, rfl, h10, rfl⟩ := h
  obtain ⟨x0, rfl, o0⟩ := VM.fit_string Tryz.underlying9 h0
  obtain ⟨x1, rfl, o1⟩ := VM.fit_string Tryz.underlying9 h1
  obtain ⟨x2, rfl, o2⟩ := VM.fit_string Tryz.underlying9 h2
  obtain ⟨x3, rfl, o3⟩ := fit_i64 Tryz.underlying3 h3
  obtain ⟨x4, rfl, o4⟩ := fit_i64 Tryz.underlying3 h4
  obtain ⟨x5, rfl, o5⟩ := fit_i64 Tryz.underlying3 h5
  obtain ⟨x6, rfl, o6⟩ := fit_i64 Tryz.underlying3 h6
  obtain ⟨x7, rfl, o7⟩ := fitT110 h7
  obtain ⟨x8, rfl, o8⟩ := fitT110 h8
  obtain ⟨x9, rfl, o9⟩ := fitS111 h9
  obtain ⟨x10, rfl, o10⟩ := fitS112 h10
  exact ⟨⟨x0, x1, x2, x3, x4, x5, x6, x7, x8, x9, x10⟩, rfl, o0, o1, o2, o3, o4, o5, o6, o7, o8, o9, o10⟩
structure Account where
  id : Int
  opened : Int
  closed : Int
  extra : Int
  owner : List UInt8
  product : List UInt8
  number : List UInt8
  deriving DecidableEq
abbrev Account.cells (x : Account) : List V := [.i .i64 x.id, .i .i64 x.opened, .i .i64 x.closed, .i .i64 x.extra, .s x.owner, .s x.product, .s x.number]
abbrev Account.v (x : Account) : V := .a ([.i .i64 x.id, .i .i64 x.opened, .i .i64 x.closed, .i .i64 x.extra, .s x.owner, .s x.product, .s x.number])
def Account.ok (x : Account) : Prop := I64 x.id ∧ I64 x.opened ∧ I64 x.closed ∧ I64 x.extra ∧ x.owner.length ≤ maxLen ∧ x.product.length ≤ maxLen ∧ x.number.length ≤ maxLen
@[simp] theorem Account.all_len (l : List Account) : (encL Account.v l).all (fun x => x.cells.length == 7) = true := encL_all fun _ => rfl
@[simp] theorem Account.len_all (l : List Account) : (∀ x ∈ encL Account.v l, x.cells.length = 7) = True := encL_len fun _ => rfl
theorem fitT117 {n : Nat} {ys : List V} (h : Fit Tryz.prog (n + 2) 117 ys) : ∃ x : Account, ys = x.cells ∧ x.ok := by
  unfold Fit at h
  rw [Tryz.underlying117] at h
  simp only [List.foldr_cons, List.foldr_nil] at h
  obtain ⟨a0, b0, rfl, h0, a1, b1, rfl, h1, a2, b2, rfl, h2, a3, b3, rfl, h3, a4, b4, rfl, h4, a5, b5, rfl, h5, a6, b6, rfl, h6, rfl⟩ := h
  obtain ⟨x0, rfl, o0⟩ := fit_i64 Tryz.underlying3 h0
  obtain ⟨x1, rfl, o1⟩ := fit_i64 Tryz.underlying3 h1
  obtain ⟨x2, rfl, o2⟩ := fit_i64 Tryz.underlying3 h2
  obtain ⟨x3, rfl, o3⟩ := fit_i64 Tryz.underlying3 h3
  obtain ⟨x4, rfl, o4⟩ := VM.fit_string Tryz.underlying9 h4
  obtain ⟨x5, rfl, o5⟩ := VM.fit_string Tryz.underlying9 h5
  obtain ⟨x6, rfl, o6⟩ := VM.fit_string Tryz.underlying9 h6
  exact ⟨⟨x0, x1, x2, x3, x4, x5, x6⟩, rfl, o0, o1, o2, o3, o4, o5, o6⟩
structure Leg where
  account : Int
  amount : Int
  currency : List UInt8
  deriving DecidableEq
abbrev Leg.cells (x : Leg) : List V := [.i .i64 x.account, .i .i64 x.amount, .s x.currency]
abbrev Leg.v (x : Leg) : V := .a ([.i .i64 x.account, .i .i64 x.amount, .s x.currency])
def Leg.ok (x : Leg) : Prop := I64 x.account ∧ I64 x.amount ∧ x.currency.length ≤ maxLen
@[simp] theorem Leg.all_len (l : List Leg) : (encL Leg.v l).all (fun x => x.cells.length == 3) = true := encL_all fun _ => rfl
@[simp] theorem Leg.len_all (l : List Leg) : (∀ x ∈ encL Leg.v l, x.cells.length = 3) = True := encL_len fun _ => rfl
theorem fitT61 {n : Nat} {ys : List V} (h : Fit Tryz.prog (n + 2) 61 ys) : ∃ x : Leg, ys = x.cells ∧ x.ok := by
  unfold Fit at h
  rw [Tryz.underlying61] at h
  simp only [List.foldr_cons, List.foldr_nil] at h
  obtain ⟨a0, b0, rfl, h0, a1, b1, rfl, h1, a2, b2, rfl, h2, rfl⟩ := h
  obtain ⟨x0, rfl, o0⟩ := fit_i64 Tryz.underlying3 h0
  obtain ⟨x1, rfl, o1⟩ := fit_i64 Tryz.underlying3 h1
  obtain ⟨x2, rfl, o2⟩ := VM.fit_string Tryz.underlying9 h2
  exact ⟨⟨x0, x1, x2⟩, rfl, o0, o1, o2⟩
theorem fitS56 {n : Nat} {ys : List V} (h : Fit Tryz.prog (n + 3) 56 ys) : ∃ l : List Leg, ys = [.l (encL Leg.v l)] ∧ l.length ≤ maxLen ∧ ∀ y ∈ l, y.ok :=
  fit_list Tryz.underlying56 (fun _ h => fit_agg (by kernel_rfl) (fitT61 h)) h
structure Entry where
  id : Int
  booked : Int
  value : Int
  kind : Int
  auth : Int
  period : Int
  key : List UInt8
  text : List UInt8
  legs : List Leg
  chain : Int
  deriving DecidableEq
abbrev Entry.cells (x : Entry) : List V := [.i .i64 x.id, .i .i64 x.booked, .i .i64 x.value, .i .i64 x.kind, .i .i64 x.auth, .i .i64 x.period, .s x.key, .s x.text, .l (encL Leg.v x.legs), .i .u64 x.chain]
abbrev Entry.v (x : Entry) : V := .a ([.i .i64 x.id, .i .i64 x.booked, .i .i64 x.value, .i .i64 x.kind, .i .i64 x.auth, .i .i64 x.period, .s x.key, .s x.text, .l (encL Leg.v x.legs), .i .u64 x.chain])
def Entry.ok (x : Entry) : Prop := I64 x.id ∧ I64 x.booked ∧ I64 x.value ∧ I64 x.kind ∧ I64 x.auth ∧ I64 x.period ∧ x.key.length ≤ maxLen ∧ x.text.length ≤ maxLen ∧ (x.legs.length ≤ maxLen ∧ ∀ y ∈ x.legs, y.ok) ∧ (Lit.int .u64 x.chain).wf = true
@[simp] theorem Entry.all_len (l : List Entry) : (encL Entry.v l).all (fun x => x.cells.length == 10) = true := encL_all fun _ => rfl
@[simp] theorem Entry.len_all (l : List Entry) : (∀ x ∈ encL Entry.v l, x.cells.length = 10) = True := encL_len fun _ => rfl
theorem fitT59 {n : Nat} {ys : List V} (h : Fit Tryz.prog (n + 4) 59 ys) : ∃ x : Entry, ys = x.cells ∧ x.ok := by
  unfold Fit at h
  rw [Tryz.underlying59] at h
  simp only [List.foldr_cons, List.foldr_nil] at h
  obtain ⟨a0, b0, rfl, h0, a1, b1, rfl, h1, a2, b2, rfl, h2, a3, b3, rfl, h3, a4, b4, rfl, h4, a5, b5, rfl, h5, a6, b6, rfl, h6, a7, b7, rfl, h7, a8, b8, rfl, h8, a9, b9, rfl, h9, rfl⟩ := h
  obtain ⟨x0, rfl, o0⟩ := fit_i64 Tryz.underlying3 h0
  obtain ⟨x1, rfl, o1⟩ := fit_i64 Tryz.underlying3 h1
  obtain ⟨x2, rfl, o2⟩ := fit_i64 Tryz.underlying3 h2
  obtain ⟨x3, rfl, o3⟩ := fit_i64 Tryz.underlying3 h3
  obtain ⟨x4, rfl, o4⟩ := fit_i64 Tryz.underlying3 h4
  obtain ⟨x5, rfl, o5⟩ := fit_i64 Tryz.underlying3 h5
  obtain ⟨x6, rfl, o6⟩ := VM.fit_string Tryz.underlying9 h6
  obtain ⟨x7, rfl, o7⟩ := VM.fit_string Tryz.underlying9 h7
  obtain ⟨x8, rfl, o8⟩ := fitS56 h8
  obtain ⟨x9, rfl, o9⟩ := fit_int Tryz.underlying57 h9
  exact ⟨⟨x0, x1, x2, x3, x4, x5, x6, x7, x8, x9⟩, rfl, o0, o1, o2, o3, o4, o5, o6, o7, o8, o9⟩
structure Hold where
  id : Int
  account : Int
  amount : Int
  from' : Int
  to' : Int
  key : List UInt8
  deriving DecidableEq
abbrev Hold.cells (x : Hold) : List V := [.i .i64 x.id, .i .i64 x.account, .i .i64 x.amount, .i .i64 x.from', .i .i64 x.to', .s x.key]
abbrev Hold.v (x : Hold) : V := .a ([.i .i64 x.id, .i .i64 x.account, .i .i64 x.amount, .i .i64 x.from', .i .i64 x.to', .s x.key])
def Hold.ok (x : Hold) : Prop := I64 x.id ∧ I64 x.account ∧ I64 x.amount ∧ I64 x.from' ∧ I64 x.to' ∧ x.key.length ≤ maxLen
@[simp] theorem Hold.all_len (l : List Hold) : (encL Hold.v l).all (fun x => x.cells.length == 6) = true := encL_all fun _ => rfl
@[simp] theorem Hold.len_all (l : List Hold) : (∀ x ∈ encL Hold.v l, x.cells.length = 6) = True := encL_len fun _ => rfl
theorem fitT152 {n : Nat} {ys : List V} (h : Fit Tryz.prog (n + 2) 152 ys) : ∃ x : Hold, ys = x.cells ∧ x.ok := by
  unfold Fit at h
  rw [Tryz.underlying152] at h
  simp only [List.foldr_cons, List.foldr_nil] at h
  obtain ⟨a0, b0, rfl, h0, a1, b1, rfl, h1, a2, b2, rfl, h2, a3, b3, rfl, h3, a4, b4, rfl, h4, a5, b5, rfl, h5, rfl⟩ := h
  obtain ⟨x0, rfl, o0⟩ := fit_i64 Tryz.underlying3 h0
  obtain ⟨x1, rfl, o1⟩ := fit_i64 Tryz.underlying3 h1
  obtain ⟨x2, rfl, o2⟩ := fit_i64 Tryz.underlying3 h2
  obtain ⟨x3, rfl, o3⟩ := fit_i64 Tryz.underlying3 h3
  obtain ⟨x4, rfl, o4⟩ := fit_i64 Tryz.underlying3 h4
  obtain ⟨x5, rfl, o5⟩ := VM.fit_string Tryz.underlying9 h5
  exact ⟨⟨x0, x1, x2, x3, x4, x5⟩, rfl, o0, o1, o2, o3, o4, o5⟩
structure Block where
  id : Int
  account : Int
  kind : Int
  amount : Int
  from' : Int
  to' : Int
  source : List UInt8
  deriving DecidableEq
abbrev Block.cells (x : Block) : List V := [.i .i64 x.id, .i .i64 x.account, .i .i64 x.kind, .i .i64 x.amount, .i .i64 x.from', .i .i64 x.to', .s x.source]
abbrev Block.v (x : Block) : V := .a ([.i .i64 x.id, .i .i64 x.account, .i .i64 x.kind, .i .i64 x.amount, .i .i64 x.from', .i .i64 x.to', .s x.source])
def Block.ok (x : Block) : Prop := I64 x.id ∧ I64 x.account ∧ I64 x.kind ∧ I64 x.amount ∧ I64 x.from' ∧ I64 x.to' ∧ x.source.length ≤ maxLen
@[simp] theorem Block.all_len (l : List Block) : (encL Block.v l).all (fun x => x.cells.length == 7) = true := encL_all fun _ => rfl
@[simp] theorem Block.len_all (l : List Block) : (∀ x ∈ encL Block.v l, x.cells.length = 7) = True := encL_len fun _ => rfl
theorem fitT156 {n : Nat} {ys : List V} (h : Fit Tryz.prog (n + 2) 156 ys) : ∃ x : Block, ys = x.cells ∧ x.ok := by
  unfold Fit at h
  rw [Tryz.underlying156] at h
  simp only [List.foldr_cons, List.foldr_nil] at h
  obtain ⟨a0, b0, rfl, h0, a1, b1, rfl, h1, a2, b2, rfl, h2, a3, b3, rfl, h3, a4, b4, rfl, h4, a5, b5, rfl, h5, a6, b6, rfl, h6, rfl⟩ := h
  obtain ⟨x0, rfl, o0⟩ := fit_i64 Tryz.underlying3 h0
  obtain ⟨x1, rfl, o1⟩ := fit_i64 Tryz.underlying3 h1
  obtain ⟨x2, rfl, o2⟩ := fit_i64 Tryz.underlying3 h2
  obtain ⟨x3, rfl, o3⟩ := fit_i64 Tryz.underlying3 h3
  obtain ⟨x4, rfl, o4⟩ := fit_i64 Tryz.underlying3 h4
  obtain ⟨x5, rfl, o5⟩ := fit_i64 Tryz.underlying3 h5
  obtain ⟨x6, rfl, o6⟩ := VM.fit_string Tryz.underlying9 h6
  exact ⟨⟨x0, x1, x2, x3, x4, x5, x6⟩, rfl, o0, o1, o2, o3, o4, o5, o6⟩
theorem fitS22 {n : Nat} {ys : List V} (h : Fit Tryz.prog (n + 3) 22 ys) : ∃ l : List Currency, ys = [.l (encL Currency.v l)] ∧ l.length ≤ maxLen ∧ ∀ y ∈ l, y.ok :=
  fit_list Tryz.underlying22 (fun _ h => fit_agg (by kernel_rfl) (fitT52 h)) h
theorem fitS23 {n : Nat} {ys : List V} (h : Fit Tryz.prog (n + 4) 23 ys) : ∃ l : List Calendar, ys = [.l (encL Calendar.v l)] ∧ l.length ≤ maxLen ∧ ∀ y ∈ l, y.ok :=
  fit_list Tryz.underlying23 (fun _ h => fit_agg (by kernel_rfl) (fitT94 h)) h
theorem fitS24 {n : Nat} {ys : List V} (h : Fit Tryz.prog (n + 3) 24 ys) : ∃ l : List Gl, ys = [.l (encL Gl.v l)] ∧ l.length ≤ maxLen ∧ ∀ y ∈ l, y.ok :=
  fit_list Tryz.underlying24 (fun _ h => fit_agg (by kernel_rfl) (fitT38 h)) h
theorem fitS27 {n : Nat} {ys : List V} (h : Fit Tryz.prog (n + 304) 27 ys) : ∃ l : List Product, ys = [.l (encL Product.v l)] ∧ l.length ≤ maxLen ∧ ∀ y ∈ l, y.ok :=
  fit_list Tryz.underlying27 (fun _ h => fit_agg (by kernel_rfl) (fitT114 h)) h
theorem fitS28 {n : Nat} {ys : List V} (h : Fit Tryz.prog (n + 3) 28 ys) : ∃ l : List Account, ys = [.l (encL Account.v l)] ∧ l.length ≤ maxLen ∧ ∀ y ∈ l, y.ok :=
  fit_list Tryz.underlying28 (fun _ h => fit_agg (by kernel_rfl) (fitT117 h)) h
theorem fitS29 {n : Nat} {ys : List V} (h : Fit Tryz.prog (n + 5) 29 ys) : ∃ l : List Entry, ys = [.l (encL Entry.v l)] ∧ l.length ≤ maxLen ∧ ∀ y ∈ l, y.ok :=
  fit_list Tryz.underlying29 (fun _ h => fit_agg (by kernel_rfl) (fitT59 h)) h
theorem fitS30 {n : Nat} {ys : List V} (h : Fit Tryz.prog (n + 3) 30 ys) : ∃ l : List Hold, ys = [.l (encL Hold.v l)] ∧ l.length ≤ maxLen ∧ ∀ y ∈ l, y.ok :=
  fit_list Tryz.underlying30 (fun _ h => fit_agg (by kernel_rfl) (fitT152 h)) h
theorem fitS31 {n : Nat} {ys : List V} (h : Fit Tryz.prog (n + 3) 31 ys) : ∃ l : List Block, ys = [.l (encL Block.v l)] ∧ l.length ≤ maxLen ∧ ∀ y ∈ l, y.ok :=
  fit_list Tryz.underlying31 (fun _ h => fit_agg (by kernel_rfl) (fitT156 h)) h
structure Books where
  currencies : List Currency
  calendars : List Calendar
  chart : List Gl
  plan : Plan
  products : List Product
  accounts : List Account
  journal : List Entry
  holds : List Hold
  blocks : List Block
abbrev Books.cells (x : Books) : List V := [.l (encL Currency.v x.currencies), .l (encL Calendar.v x.calendars), .l (encL Gl.v x.chart), .i .i64 x.plan.cash, .i .i64 x.plan.deposits, .i .i64 x.plan.interestPaid, .i .i64 x.plan.interestEarned, .i .i64 x.plan.feeEarned, .i .i64 x.plan.tax, .i .i64 x.plan.clearing, .i .i64 x.plan.loans, .i .i64 x.plan.loanInterest, .i .i64 x.plan.penalty, .i .i64 x.plan.provision, .i .i64 x.plan.provisionCost, .i .i64 x.plan.loss, .i .i64 x.plan.recovery, .l (encL Product.v x.products), .l (encL Account.v x.accounts), .l (encL Entry.v x.journal), .l (encL Hold.v x.holds), .l (encL Block.v x.blocks)]
abbrev Books.v (x : Books) : V := .a ([.l (encL Currency.v x.currencies), .l (encL Calendar.v x.calendars), .l (encL Gl.v x.chart), .i .i64 x.plan.cash, .i .i64 x.plan.deposits, .i .i64 x.plan.interestPaid, .i .i64 x.plan.interestEarned, .i .i64 x.plan.feeEarned, .i .i64 x.plan.tax, .i .i64 x.plan.clearing, .i .i64 x.plan.loans, .i .i64 x.plan.loanInterest, .i .i64 x.plan.penalty, .i .i64 x.plan.provision, .i .i64 x.plan.provisionCost, .i .i64 x.plan.loss, .i .i64 x.plan.recovery, .l (encL Product.v x.products), .l (encL Account.v x.accounts), .l (encL Entry.v x.journal), .l (encL Hold.v x.holds), .l (encL Block.v x.blocks)])
def Books.ok (x : Books) : Prop := (x.currencies.length ≤ maxLen ∧ ∀ y ∈ x.currencies, y.ok) ∧ (x.calendars.length ≤ maxLen ∧ ∀ y ∈ x.calendars, y.ok) ∧ (x.chart.length ≤ maxLen ∧ ∀ y ∈ x.chart, y.ok) ∧ x.plan.ok ∧ (x.products.length ≤ maxLen ∧ ∀ y ∈ x.products, y.ok) ∧ (x.accounts.length ≤ maxLen ∧ ∀ y ∈ x.accounts, y.ok) ∧ (x.journal.length ≤ maxLen ∧ ∀ y ∈ x.journal, y.ok) ∧ (x.holds.length ≤ maxLen ∧ ∀ y ∈ x.holds, y.ok) ∧ (x.blocks.length ≤ maxLen ∧ ∀ y ∈ x.blocks, y.ok)
@[simp] theorem Books.all_len (l : List Books) : (encL Books.v l).all (fun x => x.cells.length == 22) = true := encL_all fun _ => rfl
@[simp] theorem Books.len_all (l : List Books) : (∀ x ∈ encL Books.v l, x.cells.length = 22) = True := encL_len fun _ => rfl
theorem fitT33 {n : Nat} {ys : List V} (h : Fit Tryz.prog (n + 305) 33 ys) : ∃ x : Books, ys = x.cells ∧ x.ok := by
  unfold Fit at h
  rw [Tryz.underlying33] at h
  simp only [List.foldr_cons, List.foldr_nil] at h
  obtain ⟨a0, b0, rfl, h0, a1, b1, rfl, h1, a2, b2, rfl, h2, a3, b3, rfl, h3, a4, b4, rfl, h4, a5, b5, rfl, h5, a6, b6, rfl, h6, a7, b7, rfl, h7, a8, b8, rfl, h8, rfl⟩ := h
  obtain ⟨x0, rfl, o0⟩ := fitS22 h0
  obtain ⟨x1, rfl, o1⟩ := fitS23 h1
  obtain ⟨x2, rfl, o2⟩ := fitS24 h2
  obtain ⟨x3, rfl, o3⟩ := fitT26 h3
  obtain ⟨x4, rfl, o4⟩ := fitS27 h4
  obtain ⟨x5, rfl, o5⟩ := fitS28 h5
  obtain ⟨x6, rfl, o6⟩ := fitS29 h6
  obtain ⟨x7, rfl, o7⟩ := fitS30 h7
  obtain ⟨x8, rfl, o8⟩ := fitS31 h8
  exact ⟨⟨x0, x1, x2, x3, x4, x5, x6, x7, x8⟩, rfl, o0, o1, o2, o3, o4, o5, o6, o7, o8⟩
structure Row where
  name : List UInt8
  sign : Int
  roots : List Int
  deriving DecidableEq
abbrev Row.cells (x : Row) : List V := [.s x.name, .i .i64 x.sign, .l (encL (V.i .i64) x.roots)]
abbrev Row.v (x : Row) : V := .a ([.s x.name, .i .i64 x.sign, .l (encL (V.i .i64) x.roots)])
def Row.ok (x : Row) : Prop := x.name.length ≤ maxLen ∧ I64 x.sign ∧ (x.roots.length ≤ maxLen ∧ ∀ y ∈ x.roots, I64 y)
@[simp] theorem Row.all_len (l : List Row) : (encL Row.v l).all (fun x => x.cells.length == 3) = true := encL_all fun _ => rfl
@[simp] theorem Row.len_all (l : List Row) : (∀ x ∈ encL Row.v l, x.cells.length = 3) = True := encL_len fun _ => rfl
theorem pack33 (ys : List V) : packT Tryz.prog 33 ys = .a ys := pack_agg (by kernel_rfl) ys
theorem pack3 (x : V) : packT Tryz.prog 3 [x] = x := pack_one (by kernel_rfl) x
end Go.Proofs.YtdlpbedneamebaaGreatDoor
