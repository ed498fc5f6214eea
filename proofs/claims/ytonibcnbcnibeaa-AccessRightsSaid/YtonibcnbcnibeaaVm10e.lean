/-
  All functions at once: what is known of calls, to any depth. No program is named here.
-/
import Derived.Test.YtonibcnbcnibeaaVm10d
import Derived.Test.YtonibcnbcnibeaaVm5
namespace Go.VM
open Go.RowKit

/-- Of what is known, a computation uses finitely many facts. -/
def Pts {α : Type} (F : Orc → Option α) : Prop := ∀ o v, F o = some v → ∃ L : List (Nat × List V × V), (∀ p ∈ L, o p.1 p.2.1 = some p.2.2) ∧ ∀ o' : Orc, (∀ p ∈ L, o' p.1 p.2.1 = some p.2.2) → F o' = some v
theorem Pts.const {α : Type} (x : Option α) : Pts fun _ => x := fun _ _ h => ⟨[], by simp, fun _ _ => h⟩
theorem Pts.ask (f : Nat) (xs : List V) : Pts fun o => o f xs := fun _ y h => ⟨[(f, xs, y)], by simpa using h, fun o' h' => h' (f, xs, y) (by simp)⟩
theorem Pts.bind {α β : Type} {F : Orc → Option α} {G : α → Orc → Option β} (hF : Pts F) (hG : ∀ a, Pts (G a)) : Pts fun o => (F o).bind fun a => G a o := by
  intro o v h
  simp only [Option.bind_eq_some_iff] at h
  obtain ⟨a, ha, hg⟩ := h
  obtain ⟨L1, h1, h2⟩ := hF o a ha
  obtain ⟨L2, h3, h4⟩ := hG a o v hg
  refine ⟨L1 ++ L2, fun p hp => ?_, fun o' h' => ?_⟩
  · rcases List.mem_append.1 hp with hp | hp
    · exact h1 p hp
    · exact h3 p hp
  · simp only [h2 o' fun p hp => h' p (List.mem_append_left _ hp), Option.bind_some]
    exact h4 o' fun p hp => h' p (List.mem_append_right _ hp)
theorem Pts.congr {α : Type} {F G : Orc → Option α} (hF : Pts F) (h : ∀ o, G o = F o) : Pts G := by
  have : G = F := funext h
  rw [this]; exact hF
theorem Pts.mono {α : Type} {F : Orc → Option α} (hF : Pts F) {o o' : Orc} (h : ∀ f xs y, o f xs = some y → o' f xs = some y) {v : α} (hv : F o = some v) : F o' = some v := by
  obtain ⟨L, h1, h2⟩ := hF o v hv
  exact h2 o' fun p hp => h _ _ _ (h1 p hp)

theorem pts_callV (vs : List V) : Pts fun o => callV o vs := by
  unfold callV
  split
  · exact Pts.ask _ _
  · exact Pts.const _
theorem opQ_still (o : Orc) (p : XOp) (vs : List V) (h1 : ∀ fl f, p ≠ .call fl f) (h2 : ∀ fl, p ≠ .callv fl) : opQ o p vs = opQ o0 p vs := by
  cases p <;> first
    | exact absurd rfl (h1 _ _)
    | exact absurd rfl (h2 _)
    | (match vs with
      | [] => rfl
      | [x] => cases x <;> rfl
      | [x, y] => cases x <;> cases y <;> rfl
      | x :: y :: _ :: _ => cases x <;> first | rfl | (cases y <;> rfl))
theorem pts_opQ (p : XOp) (vs : List V) : Pts fun o => opQ o p vs := by
  by_cases h1 : ∃ fl f, p = .call fl f
  · obtain ⟨fl, f, rfl⟩ := h1
    exact Pts.congr (Pts.bind (Pts.ask f vs) fun r => Pts.const (if fl = true → r.uniq = true then some (frzt r) else none)) fun o => opQ_call o fl f vs
  · by_cases h2 : ∃ fl, p = .callv fl
    · obtain ⟨fl, rfl⟩ := h2
      exact Pts.congr (Pts.bind (pts_callV vs) fun r => Pts.const (if fl = true → r.uniq = true then some (frzt r) else none)) fun o => opQ_callv o fl vs
    · exact Pts.congr (Pts.const (opQ o0 p vs)) fun o => opQ_still o p vs (fun fl f e => h1 ⟨fl, f, e⟩) (fun fl e => h2 ⟨fl, e⟩)
mutual
theorem pts_evalX (env : Env) : ∀ x : X, Pts fun o => evalX o env x
  | .sl n => by simp only [evalX]; exact Pts.const _
  | .k v => by simp only [evalX]; exact Pts.const _
  | .ite c a b => by
    simp only [evalX]
    refine Pts.bind (pts_evalX env c) fun v => ?_
    cases v with
    | b t =>
      cases t with
      | true => exact pts_evalX env a
      | false => exact pts_evalX env b
    | _ => exact Pts.const _
  | .op p xs => by
    simp only [evalX]
    exact Pts.bind (pts_evalXs env xs) fun vs => pts_opQ p vs
theorem pts_evalXs (env : Env) : ∀ xs : List X, Pts fun o => evalXs o env xs
  | [] => by simp only [evalXs]; exact Pts.const _
  | x :: xs => by
    simp only [evalXs]
    exact Pts.bind (pts_evalX env x) fun v => Pts.bind (pts_evalXs env xs) fun vs => Pts.const _
end
theorem pts_putsQ (env : Env) : ∀ (rs : List (Nat × X)) (acc : Env), Pts fun o => putsQ o env rs acc
  | [], acc => by simp only [putsQ]; exact Pts.const _
  | p :: r, acc => by
    simp only [putsQ]
    refine Pts.bind (pts_evalX env p.2) fun v => ?_
    split
    · exact pts_putsQ env r _
    · exact Pts.const _
theorem pts_stepS (env : Env) (s : St) : Pts fun o => stepS o env s := by
  cases s with
  | q d p xs =>
    simp only [stepS]
    exact Pts.bind (Pts.const _) fun vs => Pts.bind (pts_opQ p vs) fun r => Pts.const _
  | call d f xs =>
    simp only [stepS]
    exact Pts.bind (Pts.const _) fun vs => Pts.bind (Pts.ask f vs) fun r => Pts.const _
  | callv d xs =>
    simp only [stepS]
    exact Pts.bind (Pts.const _) fun vs => Pts.bind (pts_callV vs) fun r => Pts.const _
  | slc d k lo hi xs =>
    simp only [stepS]
    exact Pts.bind (Pts.const _) fun vs => Pts.bind (pts_opQ _ vs) fun r => Pts.const _
  | mv d s => cases s <;> exact Pts.const _
  | as d s => cases s <;> exact Pts.const _
  | ix d k s i => exact Pts.const _
  | fa d off n s => cases s <;> exact Pts.const _
  | sto sz s v => cases s <;> exact Pts.const _
  | app d e k b s y => exact Pts.const _
  | ext d i n => exact Pts.const _
  | bld d z ps xs => exact Pts.const _
  | bsl d e k xs => exact Pts.const _
  | box d s => exact Pts.const _
  | alo d z => exact Pts.const _
  | mkf d fn n xs => exact Pts.const _
  | mks d e b z n => exact Pts.const _
  | s2b d e s => exact Pts.const _
theorem pts_stepsS : ∀ (ss : List St) (env : Env), Pts fun o => stepsS o ss env
  | [], env => by simp only [stepsS]; exact Pts.const _
  | s :: r, env => by
    simp only [stepsS]
    exact Pts.bind (pts_stepS env s) fun env' => pts_stepsS r env'
theorem pts_rounds {f : Orc → Env → Option (Ex × Env)} (hf : ∀ env, Pts fun o => f o env) : ∀ (n : Nat) (env : Env), Pts fun o => rounds (f o) n env
  | 0, env => by simp only [rounds]; exact Pts.const _
  | n + 1, env => by
    simp only [rounds]
    refine Pts.bind (hf env) fun p => ?_
    obtain ⟨e, env'⟩ := p
    cases e with
    | n => exact pts_rounds hf n env'
    | e id => exact Pts.const _
    | r => exact Pts.const _
theorem pts_looped {f : Orc → Env → Option (Ex × Env)} (hf : ∀ env, Pts fun o => f o env) (env : Env) : Pts fun o => looped (f o) env := by
  intro o v h
  have h' : looped (f o) env = some v := h
  unfold looped at h'
  split at h'
  · obtain ⟨L, h1, h2⟩ := pts_rounds hf _ env o v h'
    exact ⟨L, h1, fun o' ho' => looped_of (h2 o' ho')⟩
  · cases h'
theorem pts_exec : ∀ (c : C) (env : Env), Pts fun o => exec o c env
  | .skip, env => by simp only [exec]; exact Pts.const _
  | .seq a b, env => by
    simp only [exec]
    refine Pts.bind (pts_exec a env) fun p => ?_
    obtain ⟨e, env'⟩ := p
    cases e with
    | n => exact pts_exec b env'
    | e id => exact Pts.const _
    | r => exact Pts.const _
  | .q rs, env => by
    simp only [exec]
    exact Pts.bind (pts_putsQ env rs env) fun e => Pts.const _
  | .s ss ks, env => by
    simp only [exec]
    exact Pts.bind (pts_stepsS ss env) fun e => Pts.const _
  | .cond x a b, env => by
    simp only [exec]
    refine Pts.bind (pts_evalX env x) fun v => ?_
    cases v with
    | b t =>
      cases t with
      | true => exact pts_exec a env
      | false => exact pts_exec b env
    | _ => exact Pts.const _
  | .blk id c, env => by
    simp only [exec]
    exact Pts.bind (pts_exec c env) fun p => Pts.const _
  | .loop kin c, env => by
    simp only [exec]
    exact pts_looped (f := fun o e => exec o c (keepE kin e)) (fun e => pts_exec c _) env
  | .exit id ks, env => by simp only [exec]; exact Pts.const _
  | .ret ks, env => by simp only [exec]; exact Pts.const _
theorem pts_bodyV (fc : FCode) (xs : List V) : Pts fun o => bodyV o fc xs := by
  unfold bodyV
  split
  · exact Pts.bind (pts_exec fc.body _) fun p => Pts.const _
  · exact Pts.const _

/-- Calls up to a depth. -/
noncomputable def upTo (tab : Nat → Option FCode) (ext : Orc) : Nat → Orc
  | 0 => fun f xs => match tab f with
    | some _ => none
    | none => ext f xs
  | n + 1 => fun f xs => match tab f with
    | some fc => bodyV (upTo tab ext n) fc xs
    | none => ext f xs
open Classical in
/-- Calls to any depth. -/
noncomputable def den (tab : Nat → Option FCode) (ext : Orc) : Orc := fun f xs => if h : ∃ y, ∃ n, upTo tab ext n f xs = some y then some (Classical.choose h) else none

section
variable {tab : Nat → Option FCode} {ext : Orc}
theorem upTo_mono : ∀ (n : Nat) f xs y, upTo tab ext n f xs = some y → upTo tab ext (n + 1) f xs = some y
  | 0, f, xs, y, h => by
    simp only [upTo] at h ⊢
    cases ht : tab f with
    | none => rw [ht] at h; exact h
    | some fc => rw [ht] at h; cases h
  | n + 1, f, xs, y, h => by
    unfold upTo at h ⊢
    cases ht : tab f with
    | none => rw [ht] at h; exact h
    | some fc =>
      rw [ht] at h
      exact (pts_bodyV fc xs).mono (fun g zs z hz => upTo_mono n g zs z hz) h
theorem upTo_le {n m : Nat} (hm : n ≤ m) {f : Nat} {xs : List V} {y : V} (h : upTo tab ext n f xs = some y) : upTo tab ext m f xs = some y := by
  induction hm with
  | refl => exact h
  | step _ ih => exact upTo_mono _ _ _ _ ih
theorem den_of {n f : Nat} {xs : List V} {y : V} (h : upTo tab ext n f xs = some y) : den tab ext f xs = some y := by
  have hx : ∃ y, ∃ n, upTo tab ext n f xs = some y := ⟨y, n, h⟩
  unfold den
  rw [dif_pos hx]
  obtain ⟨m, hm⟩ := Classical.choose_spec hx
  have h1 := upTo_le (Nat.le_max_left n m) h
  have h2 := upTo_le (Nat.le_max_right n m) hm
  rw [h1] at h2
  exact h2.symm
theorem den_iff {f : Nat} {xs : List V} {y : V} : den tab ext f xs = some y ↔ ∃ n, upTo tab ext n f xs = some y := by
  refine ⟨fun h => ?_, fun ⟨n, h⟩ => den_of h⟩
  unfold den at h
  split at h
  · rename_i hx
    cases h
    exact Classical.choose_spec hx
  · cases h
/-- A function's calls are what its code gives. -/
theorem den_code {f : Nat} {fc : FCode} (ht : tab f = some fc) {xs : List V} {y : V} (h : bodyV (den tab ext) fc xs = some y) : den tab ext f xs = some y := by
  obtain ⟨L, h1, h2⟩ := pts_bodyV fc xs _ y h
  have : ∀ L : List (Nat × List V × V), (∀ p ∈ L, den tab ext p.1 p.2.1 = some p.2.2) → ∃ n, ∀ p ∈ L, upTo tab ext n p.1 p.2.1 = some p.2.2 := by
    intro L
    induction L with
    | nil => intro _; exact ⟨0, by simp⟩
    | cons p L ih =>
      intro hp
      obtain ⟨n, hn⟩ := ih fun q hq => hp q (List.mem_cons_of_mem _ hq)
      obtain ⟨m, hm⟩ := den_iff.1 (hp p (List.mem_cons_self ..))
      refine ⟨max n m, fun q hq => ?_⟩
      rcases List.mem_cons.1 hq with rfl | hq
      · exact upTo_le (Nat.le_max_right _ _) hm
      · exact upTo_le (Nat.le_max_left _ _) (hn q hq)
  obtain ⟨n, hn⟩ := this L h1
  refine den_of (n := n + 1) ?_
  simp only [upTo, ht]
  exact h2 _ hn
theorem den_ext {f : Nat} (ht : tab f = none) {xs : List V} {y : V} (h : ext f xs = some y) : den tab ext f xs = some y := den_of (n := 0) (by simp only [upTo, ht]; exact h)
theorem den_sound {P : Program} (hc : ∀ f fc, tab f = some fc → ∃ fn, P.funcs[f]? = some fn ∧ compile P fn = some fc ∧ okFn P f = true) (he : ∀ f xs y, ext f xs = some y → okFn P f = true ∧ PF P f xs y) : SoundO P (den tab ext) := by
  have key : ∀ n, SoundO P (upTo tab ext n) := by
    intro n
    induction n with
    | zero =>
      intro f xs y h
      simp only [upTo] at h
      cases ht : tab f with
      | none => rw [ht] at h; exact he f xs y h
      | some fc => rw [ht] at h; cases h
    | succ n ih =>
      intro f xs y h
      simp only [upTo] at h
      cases ht : tab f with
      | none => rw [ht] at h; exact he f xs y h
      | some fc =>
        rw [ht] at h
        obtain ⟨fn, h1, h2, h3⟩ := hc f fc ht
        exact ⟨h3, body_sound ih h1 h2 h⟩
  intro f xs y h
  obtain ⟨n, hn⟩ := den_iff.1 h
  exact key n f xs y hn
end
end Go.VM
