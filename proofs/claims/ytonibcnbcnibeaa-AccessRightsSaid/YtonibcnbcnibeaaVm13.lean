/-
  What an argument of a plain type holds; orders of texts; small numbers. No program is named here.
-/
import Derived.Test.YtonibcnbcnibeaaVm11b
import Derived.Test.YtonibcnbcnibeaaVm12
namespace Go.VM

theorem fit_string {P : Program} {n : Nat} {t : TypeId} {ys : List V} (hu : P.underlying t = some .string) (h : Fit P (n + 1) t ys) : ∃ s, ys = [.s s] ∧ s.length ≤ maxLen := by
  unfold Fit at h; rw [hu] at h; exact h
theorem fit_bool {P : Program} {n : Nat} {t : TypeId} {ys : List V} (hu : P.underlying t = some .bool) (h : Fit P (n + 1) t ys) : ∃ b, ys = [.b b] := by
  unfold Fit at h; rw [hu] at h; exact h
theorem fit_int {P : Program} {n : Nat} {t : TypeId} {ys : List V} {k : IntKind} (hu : P.underlying t = some (.int k)) (h : Fit P (n + 1) t ys) : ∃ m, ys = [.i k m] ∧ (Lit.int k m).wf = true := by
  unfold Fit at h; rw [hu] at h; exact h
/-- A number of 64 bits. -/
abbrev I64 (m : Int) : Prop := -9223372036854775808 ≤ m ∧ m ≤ 9223372036854775807
theorem fit_i64 {P : Program} {n : Nat} {t : TypeId} {ys : List V} (hu : P.underlying t = some (.int .i64)) (h : Fit P (n + 1) t ys) : ∃ m, ys = [.i .i64 m] ∧ I64 m := by
  obtain ⟨m, rfl, hm⟩ := fit_int hu h
  refine ⟨m, rfl, ?_⟩
  simp only [Lit.wf, Bool.and_eq_true, decide_eq_true_eq] at hm
  exact hm
theorem fit_slice {P : Program} {n : Nat} {t e : TypeId} {ys : List V} (hu : P.underlying t = some (.slice e)) (h : Fit P (n + 1) t ys) : ∃ es : List V, ys = [.l es] ∧ es.length ≤ maxLen ∧ ∀ y ∈ es, ∃ ys, Fit P n e ys ∧ y = (if isAggB P e then .a ys else ys.headD .ud) := by
  unfold Fit at h; rw [hu] at h; exact h
theorem map_of {α : Type} {f : α → V} : ∀ {es : List V}, (∀ y ∈ es, ∃ u, y = f u) → ∃ us : List α, es = us.map f
  | [], _ => ⟨[], rfl⟩
  | y :: es, h => by
    obtain ⟨u, rfl⟩ := h y (List.mem_cons_self ..)
    obtain ⟨us, rfl⟩ := map_of fun z hz => h z (List.mem_cons_of_mem _ hz)
    exact ⟨u :: us, rfl⟩
theorem pack_one {P : Program} {t : TypeId} (h : isAggB P t = false) (y : V) : packT P t [y] = y := by
  unfold packT; rw [h]; rfl
theorem pack_agg {P : Program} {t : TypeId} (h : isAggB P t = true) (ys : List V) : packT P t ys = .a ys := by
  unfold packT; rw [h]; rfl

theorem bl_iff : ∀ (x y : List UInt8), Op.bytesLess x y = true ↔ x < y
  | [], [] => by simp [Op.bytesLess]
  | _ :: _, [] => by simp [Op.bytesLess]
  | [], _ :: _ => by simp [Op.bytesLess]
  | a :: x, b :: y => by
    have ih := bl_iff x y
    simp only [Op.bytesLess, Bool.or_eq_true, Bool.and_eq_true, decide_eq_true_eq, beq_iff_eq, List.cons_lt_cons_iff, ih]
theorem bl_eq (x y : List UInt8) : Op.bytesLess x y = decide (x < y) := by
  rw [Bool.eq_iff_iff, bl_iff]; simp
theorem str_tri (x y : List UInt8) : x < y ∨ x = y ∨ y < x := Std.Trichotomous.rel_or_eq_or_rel_swap (r := fun (a b : List UInt8) => a < b)
theorem str_irrefl (x : List UInt8) : ¬ x < x := List.lt_irrefl x
theorem str_asymm {x y : List UInt8} (h : x < y) : ¬ y < x := fun h' => List.lt_irrefl _ (List.lt_trans h h')
end Go.VM
