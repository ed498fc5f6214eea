/-
  The plain data of the laws arguments: printed by a program of ours off the translation.
-/
import Derived.Test.YtdaclkakglmfeaaCode
import Derived.Test.YtdaclkakglmfeaaVmN
namespace Go.Proofs.Ytdaclkakglmfeaa
open Go.VM
/-- 'Gl'. -/
structure Gl where
  id : Int
  parent : Int
  kind : Int
  name : List UInt8
  deriving DecidableEq
abbrev Gl.cells (x : Gl) : List V := [.i .i64 x.id, .i .i64 x.parent, .i .i64 x.kind, .s x.name]
abbrev Gl.v (x : Gl) : V := .a ([.i .i64 x.id, .i .i64 x.parent, .i .i64 x.kind, .s x.name])
def Gl.ok (x : Gl) : Prop := I64 x.id ∧ I64 x.parent ∧ I64 x.kind ∧ x.name.length ≤ maxLen
@[simp] theorem Gl.all_len (l : List Gl) : (encL Gl.v l).all (fun x => x.cells.length == 4) = true := encL_all fun _ => rfl
@[simp] theorem Gl.len_all (l : List Gl) : (∀ x ∈ encL Gl.v l, x.cells.length = 4) = True := encL_len fun _ => rfl
theorem fitT30 {n : Nat} {ys : List V} (h : Fit Try.prog (n + 2) 30 ys) : ∃ x : Gl, ys = x.cells ∧ x.ok := by
  unfold Fit at h
  rw [Try.underlying30] at h
  simp only [List.foldr_cons, List.foldr_nil] at h
  obtain ⟨a0, b0, rfl, h0, a1, b1, rfl, h1, a2, b2, rfl, h2, a3, b3, rfl, h3, rfl⟩ := h
  obtain ⟨x0, rfl, o0⟩ := fit_i64 Try.underlying3 h0
  obtain ⟨x1, rfl, o1⟩ := fit_i64 Try.underlying3 h1
  obtain ⟨x2, rfl, o2⟩ := fit_i64 Try.underlying3 h2
  obtain ⟨x3, rfl, o3⟩ := VM.fit_string Try.underlying9 h3
  exact ⟨⟨x0, x1, x2, x3⟩, rfl, o0, o1, o2, o3⟩
/-- 'Plan'. -/
structure Plan where
  cash : Int
  deposits : Int
  interestPaid : Int
  interestEarned : Int
  feeEarned : Int
  tax : Int
  clearing : Int
  loans : Int
  loanInterest : Int
  penalty : Int
  provision : Int
  provisionCost : Int
  loss : Int
  recovery : Int
  deriving DecidableEq
abbrev Plan.cells (x : Plan) : List V := [.i .i64 x.cash, .i .i64 x.deposits, .i .i64 x.interestPaid, .i .i64 x.interestEarned, .i .i64 x.feeEarned, .i .i64 x.tax, .i .i64 x.clearing, .i .i64 x.loans, .i .i64 x.loanInterest, .i .i64 x.penalty, .i .i64 x.provision, .i .i64 x.provisionCost, .i .i64 x.loss, .i .i64 x.recovery]
abbrev Plan.v (x : Plan) : V := .a ([.i .i64 x.cash, .i .i64 x.deposits, .i .i64 x.interestPaid, .i .i64 x.interestEarned, .i .i64 x.feeEarned, .i .i64 x.tax, .i .i64 x.clearing, .i .i64 x.loans, .i .i64 x.loanInterest, .i .i64 x.penalty, .i .i64 x.provision, .i .i64 x.provisionCost, .i .i64 x.loss, .i .i64 x.recovery])
def Plan.ok (x : Plan) : Prop := I64 x.cash ∧ I64 x.deposits ∧ I64 x.interestPaid ∧ I64 x.interestEarned ∧ I64 x.feeEarned ∧ I64 x.tax ∧ I64 x.clearing ∧ I64 x.loans ∧ I64 x.loanInterest ∧ I64 x.penalty ∧ I64 x.provision ∧ I64 x.provisionCost ∧ I64 x.loss ∧ I64 x.recovery
@[simp] theorem Plan.all_len (l : List Plan) : (encL Plan.v l).all (fun x => x.cells.length == 14) = true := encL_all fun _ => rfl
@[simp] theorem Plan.len_all (l : List Plan) : (∀ x ∈ encL Plan.v l, x.cells.length = 14) = True := encL_len fun _ => rfl
theorem fitT24 {n : Nat} {ys : List V} (h : Fit Try.prog (n + 2) 24 ys) : ∃ x : Plan, ys = x.cells ∧ x.ok := by
  unfold Fit at h
  rw [Try.underlying24] at h
  simp only [List.foldr_cons, List.foldr_nil] at h
  obtain ⟨a0, b0, rfl, h0, a1, b1, rfl, h1, a2, b2, rfl, h2, a3, b3, rfl, h3, a4, b4, rfl, h4, a5, b5, rfl, h5, a6, b6, rfl, h6, a7, b7, rfl, h7, a8, b8, rfl, h8, a9, b9, rfl, h9, a10, b10, rfl, h10, a11, b11, rfl, h11, a12, b12, rfl, h12, a13, b13, rfl, h13, rfl⟩ := h
  obtain ⟨x0, rfl, o0⟩ := fit_i64 Try.underlying3 h0
  obtain ⟨x1, rfl, o1⟩ := fit_i64 Try.underlying3 h1
  obtain ⟨x2, rfl, o2⟩ := fit_i64 Try.underlying3 h2
  obtain ⟨x3, rfl, o3⟩ := fit_i64 Try.underlying3 h3
  obtain ⟨x4, rfl, o4⟩ := fit_i64 Try.underlying3 h4
  obtain ⟨x5, rfl, o5⟩ := fit_i64 Try.underlying3 h5
  obtain ⟨x6, rfl, o6⟩ := fit_i64 Try.underlying3 h6
  obtain ⟨x7, rfl, o7⟩ := fit_i64 Try.underlying3 h7
  obtain ⟨x8, rfl, o8⟩ := fit_i64 Try.underlying3 h8
  obtain ⟨x9, rfl, o9⟩ := fit_i64 Try.underlying3 h9
  obtain ⟨x10, rfl, o10⟩ := fit_i64 Try.underlying3 h10
  obtain ⟨x11, rfl, o11⟩ := fit_i64 Try.underlying3 h11
  obtain ⟨x12, rfl, o12⟩ := fit_i64 Try.underlying3 h12
  obtain ⟨x13, rfl, o13⟩ := fit_i64 Try.underlying3 h13
  exact ⟨⟨x0, x1, x2, x3, x4, x5, x6, x7, x8, x9, x10, x11, x12, x13⟩, rfl, o0, o1, o2, o3, o4, o5, o6, o7, o8, o9, o10, o11, o12, o13⟩
theorem fitS22 {n : Nat} {ys : List V} (h : Fit Try.prog (n + 3) 22 ys) : ∃ l : List Gl, ys = [.l (encL Gl.v l)] ∧ l.length ≤ maxLen ∧ ∀ y ∈ l, y.ok :=
  fit_list Try.underlying22 (fun _ h => fit_agg (by kernel_rfl) (fitT30 h)) h
theorem pack22 (x : V) : packT Try.prog 22 [x] = x := pack_one (by kernel_rfl) x
theorem pack24 (ys : List V) : packT Try.prog 24 ys = .a ys := pack_agg (by kernel_rfl) ys
end Go.Proofs.Ytdaclkakglmfeaa
