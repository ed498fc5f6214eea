/-
  A region in mode Q does what the evaluator says. No program is named here.
-/
import Derived.Test.YtonibcnbcnibeaaVm8c
namespace Go.VM
open Go.RowKit

section
variable {P : Program} {o : Orc} {env : Env} {draw : Bool} {ops : List Oper}

theorem qgo_cons {op : Oper} {r : List Oper} {defs dF : List (Tmp × Nat)} {is iF : List QI} (h : qgo P draw ops (op :: r) defs is = some (dF, iF)) :
    ∃ d q, op.dst = some d ∧ guardOk ops defs op.guard = true ∧ qnode P draw defs is op = some q ∧ srcsOk is q = true ∧ qgo P draw ops r ((d, is.length) :: defs) (is ++ [q]) = some (dF, iF) := by
  simp only [qgo] at h
  cases hd : op.dst with
  | none => rw [hd] at h; cases h
  | some d =>
    rw [hd] at h
    simp only at h
    split at h
    · cases hq : qnode P draw defs is op with
      | none => rw [hq] at h; cases h
      | some q =>
        rw [hq] at h
        simp only [Option.bind_some] at h
        split at h
        · exact ⟨d, q, rfl, ‹_›, rfl, ‹_›, h⟩
        · cases h
    · cases h
theorem qgo_prefix : ∀ (r : List Oper) (defs dF : List (Tmp × Nat)) (is iF : List QI), qgo P draw ops r defs is = some (dF, iF) → ∃ tl, iF = is ++ tl ∧ tl.length = r.length
  | [], _, _, is, iF, h => by simp only [qgo, Option.some.injEq, Prod.mk.injEq] at h; exact ⟨[], by simp [h.2], rfl⟩
  | op :: r, defs, dF, is, iF, h => by
    obtain ⟨d, q, _, _, _, _, h⟩ := qgo_cons h
    obtain ⟨tl, h1, h2⟩ := qgo_prefix r _ _ _ _ h
    exact ⟨q :: tl, by rw [h1]; simp, by simp [h2]⟩
theorem defOf_cons {d : Tmp} {j : Nat} {defs : List (Tmp × Nat)} (t : Tmp) : defOf ((d, j) :: defs) t = if d = t then some j else defOf defs t := rfl
theorem qgo_shape : ∀ (r : List Oper) (defs dF : List (Tmp × Nat)) (is iF : List QI), qgo P draw ops r defs is = some (dF, iF) → (∀ t j, defOf defs t = some j → j < is.length) → (∀ (k : Nat) q, is[k]? = some q → Shape iF q) →
    ∀ (k : Nat) q, iF[k]? = some q → Shape iF q
  | [], _, _, is, iF, h, _, hs => by simp only [qgo, Option.some.injEq, Prod.mk.injEq] at h; rw [← h.2] at hs ⊢; exact hs
  | op :: r, defs, dF, is, iF, h, hlt, hs => by
    obtain ⟨d, q, _, _, hq, _, hgo⟩ := qgo_cons h
    obtain ⟨tl, h1, _⟩ := qgo_prefix _ _ _ _ _ h
    have hpre : ∀ j, j < is.length → is[j]? = iF[j]? := fun j hj => by rw [h1, List.getElem?_append_left hj]
    refine qgo_shape r _ _ _ _ hgo (fun t j hd => ?_) fun k q' hk => ?_
    · rw [defOf_cons] at hd
      split at hd
      · cases hd; simp
      · have := hlt t j hd; simp; omega
    · by_cases hk' : k < is.length
      · rw [List.getElem?_append_left hk'] at hk; exact hs k q' hk
      · rw [List.getElem?_append_right (by omega)] at hk
        cases hz : k - is.length with
        | zero =>
          rw [hz] at hk
          simp only [List.getElem?_cons_zero, Option.some.injEq] at hk
          subst hk
          exact (qnode_shape hlt hpre hq).1
        | succ m => rw [hz] at hk; simp at hk

section
variable {isF : List QI} {a0 : Act} {S : Nat → Prop} {defs : List (Tmp × Nat)} {is : List QI} {a : Act} {w : World}

theorem bool_of_rep {u : Value} {v : V} (h : Rep S w u v) (b : Bool) : u = .bool b ↔ v = .b b := by
  cases h <;> simp

/-- Whether an operation is carried out. -/
theorem wanted_iff (h : QInv o env isF a0 S defs is a w) (hD : ∀ (i : Nat) q, isF[i]? = some q → GH o env isF q.g → ∃ v, evalX o env q.x = some v) {op : Oper} (hok : guardOk ops defs op.guard = true) :
    Region.wanted op (yielded ops.toArray a.tmps) = true ↔ GH o env isF op.guard := by
  unfold Region.wanted
  unfold guardOk at hok
  cases hg : op.guard with
  | none => simp only [true_iff]; exact .top
  | some gb =>
    obtain ⟨g, b⟩ := gb
    rw [hg] at hok
    simp only at hok
    cases hd : (ops[g]?).bind (·.dst) with
    | none => rw [hd] at hok; cases hok
    | some d =>
      rw [hd] at hok
      simp only [beq_iff_eq] at hok
      have h4 := h.2.2.2.2 d
      rw [hok] at h4
      obtain ⟨q, hq, hy, hn⟩ := h4
      have hlt := (List.getElem?_eq_some_iff.1 hq).1
      have hqF : isF[g]? = some q := (h.2.2.1 g hlt).symm.trans hq
      have hyl : yielded ops.toArray a.tmps g = match a.tmps[d]? with | some (.bool b) => some b | _ => none := by
        unfold yielded
        simp only [List.getElem?_toArray]
        rw [hd]; rfl
      simp only [hyl]
      by_cases hgh : GH o env isF q.g
      · obtain ⟨v, hv⟩ := hD g q hqF hgh
        obtain ⟨u, hu, hr⟩ := hy hgh v hv
        rw [hu]
        constructor
        · intro hw
          have : u = .bool b := by
            cases u <;> simp_all
          exact .dn g b q hqF hgh (by rw [hv, (bool_of_rep hr b).1 this])
        · intro hw
          cases hw with
          | dn _ _ q2 h2 hg2 hv2 =>
            rw [hqF] at h2; cases h2
            rw [hv] at hv2
            have : v = .b b := by simpa using hv2
            have := (bool_of_rep hr b).2 this
            subst this
            simp
      · have := hn hgh
        constructor
        · intro hw
          exfalso
          cases hu : a.tmps[d]? with
          | none => rw [hu] at hw; simp at hw
          | some u =>
            rw [hu] at hw
            cases u <;> simp_all
        · intro hw
          cases hw with
          | dn _ _ q2 h2 hg2 hv2 =>
            rw [hqF] at h2; cases h2
            exact absurd hg2 hgh

/-- One operation more. -/
theorem QInv.step (h : QInv o env isF a0 S defs is a w) {d : Tmp} {q : QI} (hd : d < a0.tmps.size) (hq : isF[is.length]? = some q) (u : Value) (hu : GH o env isF q.g → ∀ v, evalX o env q.x = some v → Rep S w u v) (hn : ¬ GH o env isF q.g → ∀ b, u ≠ .bool b) :
    QInv o env isF a0 S ((d, is.length) :: defs) (is ++ [q]) (a.put (some d) u) w := by
  obtain ⟨h1, h2, h3, h3', h4⟩ := h
  refine ⟨by simpa [Act.put] using h1, h2, fun j hj => ?_, ?_, fun t => ?_⟩
  · by_cases hj' : j < is.length
    · rw [List.getElem?_append_left hj']; exact h3 j hj'
    · have : j = is.length := by simp at hj; omega
      subst this
      rw [List.getElem?_append_right (Nat.le_refl _)]; simp [hq]
  · have := (List.getElem?_eq_some_iff.1 hq).1
    simp; omega
  · rw [defOf_cons]
    by_cases ht : d = t
    · subst ht
      rw [if_pos rfl]
      have hget : (a.put (some d) u).tmps[d]? = some u := by simp [Act.put, h1, hd]
      refine ⟨q, by simp, fun hg v hv => ⟨u, hget, hu hg v hv⟩, fun hg b => ?_⟩
      rw [hget]
      intro e
      exact hn hg b (by simpa using e)
    · rw [if_neg ht]
      have hget : (a.put (some d) u).tmps[t]? = a.tmps[t]? := by simp [Act.put, ht]
      have := h4 t
      split at this
      · rename_i hd'; simp only [hget]; exact this
      · rename_i j hd'
        simp only [hget]
        obtain ⟨q', hq', hy, hn'⟩ := this
        exact ⟨q', by rw [List.getElem?_append_left (List.getElem?_eq_some_iff.1 hq').1]; exact hq', hy, hn'⟩
end
end
end Go.VM
