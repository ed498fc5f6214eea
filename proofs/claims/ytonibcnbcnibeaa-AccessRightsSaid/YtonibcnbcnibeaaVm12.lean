/-
  Loops that search, and steps, run by equations. No program is named here.
-/
import Derived.Test.YtonibcnbcnibeaaVm10e
namespace Go.VM

theorem keepE_keepE (kin : List Nat) (env : Env) : keepE kin (keepE kin env) = keepE kin env := by
  simp [keepE, List.filter_filter]
/-- A loop, of which only the slots that it keeps are seen. -/
noncomputable def loopK (o : Orc) (kin : List Nat) (c : C) (env : Env) : Option (Ex × Env) := loopC o kin c env
theorem exec_loopK (o : Orc) (env : Env) (kin : List Nat) (c : C) : exec o (.loop kin c) env = loopK o kin c (keepE kin env) := by
  rw [exec_loop, loopK, loopC_eq, loopC_eq, keepE_keepE]
/-- A loop whose slots are known at each round; it stops at the first round that says so, or runs out. -/
theorem loop_find {o : Orc} {kin : List Nat} {c : C} (F G : Nat → Env) (n : Nat) (stop : Nat → Bool) (E : Nat → Ex × Env) (X : Ex × Env) (hE : ∀ i, i < n → stop i = true → (E i).1 ≠ .n)
    (h1 : ∀ i, i < n → exec o c (keepE kin (F i)) = if stop i = true then some (E i) else some (.n, G i)) (h2 : ∀ i, i < n → stop i = false → keepE kin (G i) = keepE kin (F (i + 1))) (hX : exec o c (keepE kin (F n)) = some X) (hX' : X.1 ≠ .n) :
    loopC o kin c (F 0) = some (match (List.range n).find? stop with
      | some i => E i
      | none => X) := by
  have key : ∀ (m i : Nat), i + m = n → loopC o kin c (F i) = some (match (List.range' i m).find? stop with
      | some i => E i
      | none => X) := by
    intro m
    induction m with
    | zero =>
      intro i hi
      have : i = n := by omega
      subst this
      rw [loopC_eq, hX]
      obtain ⟨e, env⟩ := X
      cases e with
      | n => exact absurd rfl hX'
      | e id => rfl
      | r => rfl
    | succ m ih =>
      intro i hi
      rw [loopC_eq, h1 i (by omega), List.range'_succ, List.find?_cons]
      cases hs : stop i with
      | true =>
        simp only [if_true]
        have := hE i (by omega) hs
        generalize E i = r at this
        obtain ⟨e, env⟩ := r
        cases e with
        | n => exact absurd rfl this
        | e id => rfl
        | r => rfl
      | false =>
        simp only [Bool.false_eq_true, if_false, roundE_n]
        have hk : loopC o kin c (G i) = loopC o kin c (F (i + 1)) := by
          rw [loopC_eq, loopC_eq, h2 i (by omega) hs]
        rw [hk, ih (i + 1) (by omega)]
  have := key n 0 (by omega)
  rw [this, List.range_eq_range']
/-- A loop that runs its rounds to the end. -/
theorem loop_all {o : Orc} {kin : List Nat} {c : C} (F G : Nat → Env) (n : Nat) (X : Ex × Env) (h1 : ∀ i, i < n → exec o c (keepE kin (F i)) = some (.n, G i)) (h2 : ∀ i, i < n → keepE kin (G i) = keepE kin (F (i + 1))) (hX : exec o c (keepE kin (F n)) = some X) (hX' : X.1 ≠ .n) :
    loopC o kin c (F 0) = some X := by
  have := loop_find (o := o) (kin := kin) (c := c) F G n (fun _ => false) (fun _ => X) X (by simp) (fun i hi => by simpa using h1 i hi) (fun i hi _ => h2 i hi) hX hX'
  rw [this]
  have : (List.range n).find? (fun _ => false) = none := by simp
  rw [this]

/-- The same, the rounds one by one. -/
theorem loop_search {o : Orc} {kin : List Nat} {c : C} (F : Nat → Env) (n : Nat) (stop : Nat → Bool) (E : Nat → Ex × Env) (X : Ex × Env) (hE : ∀ i, (E i).1 ≠ .n)
    (h1 : ∀ i, i < n → stop i = true → exec o c (keepE kin (F i)) = some (E i)) (h2 : ∀ i, i < n → stop i = false → ∃ g, exec o c (keepE kin (F i)) = some (.n, g) ∧ keepE kin g = keepE kin (F (i + 1))) (hX : exec o c (keepE kin (F n)) = some X) (hX' : X.1 ≠ .n) :
    loopC o kin c (F 0) = some (match (List.range n).find? stop with
      | some i => E i
      | none => X) := by
  classical
  refine loop_find F (fun i => if h : ∃ g, exec o c (keepE kin (F i)) = some (.n, g) ∧ keepE kin g = keepE kin (F (i + 1)) then Classical.choose h else []) n stop E X (fun i _ _ => hE i) (fun i hi => ?_) (fun i hi hs => ?_) hX hX'
  · cases hs : stop i with
    | true => simpa using h1 i hi hs
    | false =>
      have h := h2 i hi hs
      have := Classical.choose_spec h
      simp only [Bool.false_eq_true, if_false]
      rw [dif_pos h]
      exact this.1
  · have h := h2 i hi hs
    rw [dif_pos h]
    exact (Classical.choose_spec h).2
@[simp] theorem opQ_ixn (o : Orc) (k : Nat) (es : List V) (kk : IntKind) (i : Nat) : opQ o (.ix k) [.l es, .i kk (i : Int)] = (es[i]?).bind fun e => if e.cells.length = k then some (.r e.cells) else none := by
  rw [opQ_ix, if_pos (Int.natCast_nonneg i), Int.toNat_natCast]
@[simp] theorem opQ_idxn (o : Orc) (s : List UInt8) (kk : IntKind) (i : Nat) : opQ o .idx [.s s, .i kk (i : Int)] = (s[i]?).map fun c => .i .u8 c.toNat := by
  rw [opQ_idx, if_pos (Int.natCast_nonneg i), Int.toNat_natCast]
theorem loopK_search {o : Orc} {kin : List Nat} {c : C} (F : Nat → Env) (n : Nat) (stop : Nat → Bool) (E : Nat → Ex × Env) (X : Ex × Env) (hE : ∀ i, (E i).1 ≠ .n)
    (h1 : ∀ i, i < n → stop i = true → exec o c (keepE kin (F i)) = some (E i)) (h2 : ∀ i, i < n → stop i = false → ∃ g, exec o c (keepE kin (F i)) = some (.n, g) ∧ keepE kin g = keepE kin (F (i + 1))) (hX : exec o c (keepE kin (F n)) = some X) (hX' : X.1 ≠ .n) :
    loopK o kin c (F 0) = some (match (List.range n).find? stop with
      | some i => E i
      | none => X) := loop_search F n stop E X hE h1 h2 hX hX'
@[simp] theorem nat_neg (i : Nat) : ((i : Int) < 0) = False := by simp only [eq_iff_iff, iff_false]; omega
attribute [simp] XOp.loads V.flats V.flat V.cell stepsS stepS lookSs lookS freeze freeze1 rowOf owner hand putO V.names V.isOwn newE
end Go.VM
