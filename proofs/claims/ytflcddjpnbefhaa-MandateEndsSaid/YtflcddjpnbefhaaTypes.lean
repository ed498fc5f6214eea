/-
  The plain data of the laws arguments: printed by a program of ours off the translation.
-/
import Derived.Test.YtflcddjpnbefhaaCode
namespace Go.Proofs.Ytflcddjpnbefhaa
open Go.VM
/-- 'Mandate'. -/
structure Mandate where
  id : Int
  account : Int
  limit : Int
  signed : Int
  used : Int
  revoked : Int
  creditor : List UInt8
  deriving DecidableEq
abbrev Mandate.cells (x : Mandate) : List V := [.i .i64 x.id, .i .i64 x.account, .i .i64 x.limit, .i .i64 x.signed, .i .i64 x.used, .i .i64 x.revoked, .s x.creditor]
abbrev Mandate.v (x : Mandate) : V := .a [.i .i64 x.id, .i .i64 x.account, .i .i64 x.limit, .i .i64 x.signed, .i .i64 x.used, .i .i64 x.revoked, .s x.creditor]
def Mandate.ok (x : Mandate) : Prop := I64 x.id ∧ I64 x.account ∧ I64 x.limit ∧ I64 x.signed ∧ I64 x.used ∧ I64 x.revoked ∧ x.creditor.length ≤ maxLen
@[simp] theorem Mandate.all_len (l : List Mandate) : (encL Mandate.v l).all (fun x => x.cells.length == 7) = true := encL_all fun _ => rfl
@[simp] theorem Mandate.len_all (l : List Mandate) : (∀ x ∈ encL Mandate.v l, x.cells.length = 7) = True := encL_len fun _ => rfl
theorem fitT28 {n : Nat} {ys : List V} (h : Fit Try.prog (n + 2) 28 ys) : ∃ x : Mandate, ys = x.cells ∧ x.ok := by
  unfold Fit at h
  rw [Try.underlying28] at h
  simp only [List.foldr_cons, List.foldr_nil] at h
  obtain ⟨a0, b0, rfl, h0, a1, b1, rfl, h1, a2, b2, rfl, h2, a3, b3, rfl, h3, a4, b4, rfl, h4, a5, b5, rfl, h5, a6, b6, rfl, h6, rfl⟩ := h
  obtain ⟨x0, rfl, o0⟩ := fit_i64 Try.underlying3 h0
  obtain ⟨x1, rfl, o1⟩ := fit_i64 Try.underlying3 h1
  obtain ⟨x2, rfl, o2⟩ := fit_i64 Try.underlying3 h2
  obtain ⟨x3, rfl, o3⟩ := fit_i64 Try.underlying3 h3
  obtain ⟨x4, rfl, o4⟩ := fit_i64 Try.underlying3 h4
  obtain ⟨x5, rfl, o5⟩ := fit_i64 Try.underlying3 h5
  obtain ⟨x6, rfl, o6⟩ := VM.fit_string Try.underlying9 h6
  exact ⟨⟨x0, x1, x2, x3, x4, x5, x6⟩, rfl, o0, o1, o2, o3, o4, o5, o6⟩
/-- 'Ask'. -/
structure Ask where
  id : Int
  amount : Int
  day : Int
  deriving DecidableEq
abbrev Ask.cells (x : Ask) : List V := [.i .i64 x.id, .i .i64 x.amount, .i .i64 x.day]
abbrev Ask.v (x : Ask) : V := .a [.i .i64 x.id, .i .i64 x.amount, .i .i64 x.day]
def Ask.ok (x : Ask) : Prop := I64 x.id ∧ I64 x.amount ∧ I64 x.day
@[simp] theorem Ask.all_len (l : List Ask) : (encL Ask.v l).all (fun x => x.cells.length == 3) = true := encL_all fun _ => rfl
@[simp] theorem Ask.len_all (l : List Ask) : (∀ x ∈ encL Ask.v l, x.cells.length = 3) = True := encL_len fun _ => rfl
theorem fitT36 {n : Nat} {ys : List V} (h : Fit Try.prog (n + 2) 36 ys) : ∃ x : Ask, ys = x.cells ∧ x.ok := by
  unfold Fit at h
  rw [Try.underlying36] at h
  simp only [List.foldr_cons, List.foldr_nil] at h
  obtain ⟨a0, b0, rfl, h0, a1, b1, rfl, h1, a2, b2, rfl, h2, rfl⟩ := h
  obtain ⟨x0, rfl, o0⟩ := fit_i64 Try.underlying3 h0
  obtain ⟨x1, rfl, o1⟩ := fit_i64 Try.underlying3 h1
  obtain ⟨x2, rfl, o2⟩ := fit_i64 Try.underlying3 h2
  exact ⟨⟨x0, x1, x2⟩, rfl, o0, o1, o2⟩
theorem fitS22 {n : Nat} {ys : List V} (h : Fit Try.prog (n + 3) 22 ys) : ∃ l : List Mandate, ys = [.l (encL Mandate.v l)] ∧ l.length ≤ maxLen ∧ ∀ y ∈ l, y.ok :=
  fit_list Try.underlying22 (fun _ h => fit_agg (by kernel_rfl) (fitT28 h)) h
theorem pack22 (x : V) : packT Try.prog 22 [x] = x := pack_one (by kernel_rfl) x
theorem pack28 (ys : List V) : packT Try.prog 28 ys = .a ys := pack_agg (by kernel_rfl) ys
theorem pack36 (ys : List V) : packT Try.prog 36 ys = .a ys := pack_agg (by kernel_rfl) ys
theorem pack3 (x : V) : packT Try.prog 3 [x] = x := pack_one (by kernel_rfl) x
end Go.Proofs.Ytflcddjpnbefhaa
