/-
  The plain data of the laws arguments: printed by a program of ours off the translation.
-/
import Derived.Test.YtmhodpnjhkokoaaCode
import Derived.Test.YtmhodpnjhkokoaaVmN
namespace Go.Proofs.Ytmhodpnjhkokoaa
open Go.VM
theorem fitS22 {n : Nat} {ys : List V} (h : Fit Try.prog (n + 2) 22 ys) : ∃ l : List Int, ys = [.l (encL (V.i .i64) l)] ∧ l.length ≤ maxLen ∧ ∀ y ∈ l, I64 y :=
  fit_list Try.underlying22 (fun _ h => fit_one (by kernel_rfl) (fit_i64 Try.underlying3 h)) h
/-- 'Calendar'. -/
structure Calendar where
  name : List UInt8
  weekend : List Int
  holidays : List Int
  deriving DecidableEq
abbrev Calendar.cells (x : Calendar) : List V := [.s x.name, .l (encL (V.i .i64) x.weekend), .l (encL (V.i .i64) x.holidays)]
abbrev Calendar.v (x : Calendar) : V := .a ([.s x.name, .l (encL (V.i .i64) x.weekend), .l (encL (V.i .i64) x.holidays)])
def Calendar.ok (x : Calendar) : Prop := x.name.length ≤ maxLen ∧ (x.weekend.length ≤ maxLen ∧ ∀ y ∈ x.weekend, I64 y) ∧ (x.holidays.length ≤ maxLen ∧ ∀ y ∈ x.holidays, I64 y)
@[simp] theorem Calendar.all_len (l : List Calendar) : (encL Calendar.v l).all (fun x => x.cells.length == 3) = true := encL_all fun _ => rfl
@[simp] theorem Calendar.len_all (l : List Calendar) : (∀ x ∈ encL Calendar.v l, x.cells.length = 3) = True := encL_len fun _ => rfl
theorem fitT24 {n : Nat} {ys : List V} (h : Fit Try.prog (n + 3) 24 ys) : ∃ x : Calendar, ys = x.cells ∧ x.ok := by
  unfold Fit at h
  rw [Try.underlying24] at h
  simp only [List.foldr_cons, List.foldr_nil] at h
  obtain ⟨a0, b0, rfl, h0, a1, b1, rfl, h1, a2, b2, rfl, h2, rfl⟩ := h
  obtain ⟨x0, rfl, o0⟩ := VM.fit_string Try.underlying9 h0
  obtain ⟨x1, rfl, o1⟩ := fitS22 h1
  obtain ⟨x2, rfl, o2⟩ := fitS22 h2
  exact ⟨⟨x0, x1, x2⟩, rfl, o0, o1, o2⟩
/-- 'Span'. -/
structure Span where
  from' : Int
  mid : Int
  to' : Int
  deriving DecidableEq
abbrev Span.cells (x : Span) : List V := [.i .i64 x.from', .i .i64 x.mid, .i .i64 x.to']
abbrev Span.v (x : Span) : V := .a ([.i .i64 x.from', .i .i64 x.mid, .i .i64 x.to'])
def Span.ok (x : Span) : Prop := I64 x.from' ∧ I64 x.mid ∧ I64 x.to'
@[simp] theorem Span.all_len (l : List Span) : (encL Span.v l).all (fun x => x.cells.length == 3) = true := encL_all fun _ => rfl
@[simp] theorem Span.len_all (l : List Span) : (∀ x ∈ encL Span.v l, x.cells.length = 3) = True := encL_len fun _ => rfl
theorem fitT35 {n : Nat} {ys : List V} (h : Fit Try.prog (n + 2) 35 ys) : ∃ x : Span, ys = x.cells ∧ x.ok := by
  unfold Fit at h
  rw [Try.underlying35] at h
  simp only [List.foldr_cons, List.foldr_nil] at h
  obtain ⟨a0, b0, rfl, h0, a1, b1, rfl, h1, a2, b2, rfl, h2, rfl⟩ := h
  obtain ⟨x0, rfl, o0⟩ := fit_i64 Try.underlying3 h0
  obtain ⟨x1, rfl, o1⟩ := fit_i64 Try.underlying3 h1
  obtain ⟨x2, rfl, o2⟩ := fit_i64 Try.underlying3 h2
  exact ⟨⟨x0, x1, x2⟩, rfl, o0, o1, o2⟩
theorem pack24 (ys : List V) : packT Try.prog 24 ys = .a ys := pack_agg (by kernel_rfl) ys
theorem pack3 (x : V) : packT Try.prog 3 [x] = x := pack_one (by kernel_rfl) x
theorem pack35 (ys : List V) : packT Try.prog 35 ys = .a ys := pack_agg (by kernel_rfl) ys
theorem fitS42 {n : Nat} {ys : List V} (h : Fit Try.prog (n + 4) 42 ys) : ∃ l : List Calendar, ys = [.l (encL Calendar.v l)] ∧ l.length ≤ maxLen ∧ ∀ y ∈ l, y.ok :=
  fit_list Try.underlying42 (fun _ h => fit_agg (by kernel_rfl) (fitT24 h)) h
theorem pack42 (x : V) : packT Try.prog 42 [x] = x := pack_one (by kernel_rfl) x
theorem pack9 (x : V) : packT Try.prog 9 [x] = x := pack_one (by kernel_rfl) x
end Go.Proofs.Ytmhodpnjhkokoaa
