/-
  What the evaluator's slots say of the model's frame. No program is named here.
-/
import Derived.Test.YtonibcnbcnibeaaVm7d
namespace Go.VM
open Go.RowKit

abbrev Tm := Nat → Option Value
/-- What one entry says. -/
def Ent (P : Program) (Im : Nat → Prop) (w : World) (base : Nat) (env : Env) (T : Tm) (u : Value) : V → Prop
  | .al m => T m = some u
  | .pe m i off _ => ∃ ad l c k, T m = some (.slice (some ad) l c) ∧ u = .pointer (some (ad.add (i * k + off))) ∧ ∀ y es, get m env = some y → frz y = .l es → ∀ e ∈ es, e.cells.length = k
  | .pb m off _ => ∃ ad, T m = some (.pointer (some ad)) ∧ u = .pointer (some (ad.add off))
  | .ud => True
  | .t ys => ∃ us : List Value, u = .tuple us.toArray ∧ us.length = ys.length ∧ ∀ (j : Nat) u y, us[j]? = some u → ys[j]? = some y → y = .ud ∨ Res1 P Im w base u y
  | x => Res1 P Im w base u x
/-- Entries that say what their own value reads as. -/
def V.smp : V → Bool
  | .al _ | .pe .. | .pb .. | .ud | .t _ => false
  | _ => true
theorem Ent.res1 {P : Program} {Im : Nat → Prop} {w : World} {base : Nat} {env : Env} {T : Tm} {u : Value} {x : V} (hx : x.smp = true) : Ent P Im w base env T u x = Res1 P Im w base u x := by
  cases x <;> first | rfl | (simp [V.smp] at hx; done)
/-- Slot n (its part j) owns block g. -/
def Owns (env : Env) (T : Tm) (n : Nat) : Option Nat → Nat → Prop
  | none, g => ∃ x u, get n env = some x ∧ x.isOwn = true ∧ T n = some u ∧ blkOf u = some g
  | some j, g => ∃ (ys : List V) (us : List Value) (y : V) (u : Value), get n env = some (.t ys) ∧ T n = some (.tuple us.toArray) ∧ ys[j]? = some y ∧ y.isOwn = true ∧ us[j]? = some u ∧ blkOf u = some g
structure Ents (P : Program) (Im : Nat → Prop) (w : World) (base : Nat) (env : Env) (T : Tm) : Prop where
  ent : ∀ n x, get n env = some x → ∃ u, T n = some u ∧ Ent P Im w base env T u x
  closed : ∀ n x m, get n env = some x → x.names = some m → ∃ y, get m env = some y ∧ y.names = none
  apart : ∀ n c n' c' g, Owns env T n c g → Owns env T n' c' g → n = n' ∧ c = c'

theorem get_put (n m : Nat) (x : V) (env : Env) : get m (put n x env) = if m = n then some x else get m env := by
  induction env with
  | nil => simp [put, get]
  | cons p env ih =>
    simp only [put]
    split
    · simp only [get]
    · split
      · rename_i h1 h2
        simp only [get]
        by_cases h : m = n
        · simp [h]
        · rw [if_neg h, if_neg h, if_neg (by rw [← h2]; exact h)]
      · rename_i h1 h2
        simp only [get, ih]
        by_cases h : m = p.1
        · subst h
          rw [if_pos rfl, if_neg (fun e => h2 e.symm)]
          simp
        · simp [h]

/-- Slots stand in order, each once. -/
def Srt (env : Env) : Prop := env.Pairwise fun p q => p.1 < q.1
theorem Srt.nil : Srt [] := List.Pairwise.nil
theorem Srt.filter {env : Env} (h : Srt env) (f : Nat × V → Bool) : Srt (env.filter f) := List.Pairwise.filter f h
theorem put_mem {n : Nat} {x : V} {env : Env} {p : Nat × V} (h : p ∈ put n x env) : p = (n, x) ∨ p ∈ env := by
  induction env with
  | nil => simp [put] at h; exact .inl h
  | cons q env ih =>
    simp only [put] at h
    split at h
    · rcases List.mem_cons.1 h with h | h
      · exact .inl h
      · exact .inr h
    · split at h
      · rcases List.mem_cons.1 h with h | h
        · exact .inl h
        · exact .inr (List.mem_cons_of_mem _ h)
      · rcases List.mem_cons.1 h with h | h
        · exact .inr (h ▸ List.mem_cons_self ..)
        · rcases ih h with h | h
          · exact .inl h
          · exact .inr (List.mem_cons_of_mem _ h)
theorem Srt.put {env : Env} (h : Srt env) (n : Nat) (x : V) : Srt (put n x env) := by
  induction env with
  | nil => simp [VM.put, Srt]
  | cons q env ih =>
    have h' := List.pairwise_cons.1 h
    simp only [VM.put]
    split
    · rename_i hlt
      refine List.pairwise_cons.2 ⟨fun p hp => ?_, h⟩
      rcases List.mem_cons.1 hp with rfl | hp
      · exact hlt
      · exact Nat.lt_trans hlt (h'.1 p hp)
    · split
      · rename_i h1 h2
        subst h2
        exact List.pairwise_cons.2 ⟨h'.1, h'.2⟩
      · rename_i h1 h2
        refine List.pairwise_cons.2 ⟨fun p hp => ?_, ih h'.2⟩
        rcases put_mem hp with rfl | hp
        · show q.1 < n; omega
        · exact h'.1 p hp
theorem get_mem {n : Nat} {x : V} : ∀ {env : Env}, get n env = some x → (n, x) ∈ env
  | p :: env, h => by
    simp only [get] at h
    split at h
    · rename_i hn; cases h; subst hn; exact List.mem_cons_self ..
    · exact List.mem_cons_of_mem _ (get_mem h)
theorem mem_get {n : Nat} {x : V} : ∀ {env : Env}, Srt env → (n, x) ∈ env → get n env = some x
  | p :: env, hs, h => by
    have hs' := List.pairwise_cons.1 hs
    simp only [get]
    rcases List.mem_cons.1 h with h | h
    · subst h; simp
    · have := hs'.1 _ h
      simp only at this
      rw [if_neg (by omega)]
      exact mem_get hs'.2 h
theorem get_filter {env : Env} (hs : Srt env) (f : Nat × V → Bool) (m : Nat) : get m (env.filter f) = (get m env).bind fun x => if f (m, x) then some x else none := by
  cases h : get m env with
  | none =>
    cases h2 : get m (env.filter f) with
    | none => rfl
    | some x =>
      have := mem_get hs (List.mem_filter.1 (get_mem h2)).1
      rw [h] at this; cases this
  | some x =>
    simp only [Option.bind_some]
    split
    · rename_i hf
      exact mem_get (hs.filter f) (List.mem_filter.2 ⟨get_mem h, hf⟩)
    · rename_i hf
      cases h2 : get m (env.filter f) with
      | none => rfl
      | some y =>
        obtain ⟨h3, h4⟩ := List.mem_filter.1 (get_mem h2)
        have := mem_get hs h3
        rw [h] at this; cases this
        exact absurd h4 hf
theorem get_purge {env : Env} (hs : Srt env) (n m : Nat) : get m (purge n env) = (get m env).bind fun x => if x.names = some n then none else some x := by
  unfold purge
  rw [get_filter hs]
  cases get m env with
  | none => rfl
  | some x => simp only [Option.bind_some]; by_cases h : x.names = some n <;> simp [h]
theorem get_del {env : Env} (hs : Srt env) (n m : Nat) : get m (del n env) = if m = n then none else get m env := by
  unfold del
  rw [get_filter hs]
  cases get m env with
  | none => simp
  | some x => simp only [Option.bind_some]; by_cases h : m = n <;> simp [h]
theorem Srt.put' {env : Env} (h : Srt env) (n : Nat) (x : V) : Srt (put' n x env) := by
  unfold VM.put'
  split
  · exact h.put n x
  · exact (h.filter _).put n x
theorem get_put' {env : Env} (hs : Srt env) (n m : Nat) (x : V) : get m (put' n x env) = if m = n then some x else match get n env with
    | none => get m env
    | some _ => (get m env).bind fun y => if y.names = some n then none else some y := by
  unfold VM.put'
  cases h : get n env with
  | none => simp only [get_put]
  | some y => simp only [get_put, get_purge hs]
end Go.VM
