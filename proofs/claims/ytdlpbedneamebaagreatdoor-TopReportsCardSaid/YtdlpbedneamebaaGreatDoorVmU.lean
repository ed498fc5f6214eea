/-
  Loops of which only that they end, and what holds behind them, is told. No program is named here.
-/
import Derived.Test.YtdlpbedneamebaaGreatDoorVmO
set_option linter.unusedSectionVars false
namespace Go.VM
section
variable {o : Orc} {kin : List Nat} {c : C}
theorem loopK_go {env env' : Env} (hF : keepE kin env = env) (hF' : keepE kin env' = env') (h : kE kin (exec o c env) = some (.n, env')) : loopK o kin c env = loopK o kin c env' := by
  rcases kE_inv h with ⟨_, g, hg, hk⟩ | ⟨hn, _⟩
  · rw [loopK, loopC_eq, hF, hg, roundE_n, loopK, loopC_eq, loopC_eq, hk, hF']
  · exact absurd rfl hn
theorem loopK_end {env : Env} {r : Ex × Env} (hF : keepE kin env = env) (h : exec o c env = some r) (hr : r.1 ≠ .n) : loopK o kin c env = some r := by
  rw [loopK, loopC_eq, hF, h]
  obtain ⟨e, g⟩ := r
  cases e with
  | n => exact absurd rfl hr
  | e id => rfl
  | r => rfl
theorem loopK_inv (I : Nat → Env → Prop) (n : Nat) (Q : Ex × Env → Prop) (hk : ∀ i env, I i env → keepE kin env = env)
    (hs : ∀ i env, i < n → I i env → (∃ env', kE kin (exec o c env) = some (.n, env') ∧ I (i + 1) env') ∨ ∃ r, exec o c env = some r ∧ r.1 ≠ .n ∧ Q r)
    (he : ∀ env, I n env → ∃ r, exec o c env = some r ∧ r.1 ≠ .n ∧ Q r) : ∀ (m i : Nat) (env : Env), i + m = n → I i env → ∃ r, loopK o kin c env = some r ∧ Q r
  | 0, i, env, h, hI => by
    obtain rfl : i = n := by omega
    obtain ⟨r, hr, hn, hQ⟩ := he env hI
    exact ⟨r, loopK_end (hk _ _ hI) hr hn, hQ⟩
  | m + 1, i, env, h, hI => by
    rcases hs i env (by omega) hI with ⟨env', h1, h2⟩ | ⟨r, hr, hn, hQ⟩
    · rw [loopK_go (hk _ _ hI) (hk _ _ h2) h1]
      exact loopK_inv I n Q hk hs he m (i + 1) env' (by omega) h2
    · exact ⟨r, loopK_end (hk _ _ hI) hr hn, hQ⟩
theorem loopK_any (F : Nat → Env) (n : Nat) (Q : Ex × Env → Prop) (hk : ∀ i, keepE kin (F i) = F i)
    (hs : ∀ i, i < n → kE kin (exec o c (F i)) = some (.n, F (i + 1)) ∨ ∃ r, exec o c (F i) = some r ∧ r.1 ≠ .n ∧ Q r)
    (he : ∃ r, exec o c (F n) = some r ∧ r.1 ≠ .n ∧ Q r) : ∃ r, loopK o kin c (F 0) = some r ∧ Q r :=
  loopK_inv (fun i env => env = F i) n Q (fun _ _ h => by rw [h]; exact hk _) (fun i env hi h => by
    subst h
    rcases hs i hi with h | h
    · exact .inl ⟨_, h, rfl⟩
    · exact .inr h) (fun env h => by subst h; exact he) n 0 (F 0) (by omega) rfl
theorem loopK_tot (F : Nat → Env) (n : Nat) (Q : Ex × Env → Prop) (hk : ∀ i, keepE kin (F i) = F i)
    (hs : ∀ i, i < n → ∃ r, exec o c (F i) = some r ∧ ((r.1 = .n ∧ keepE kin r.2 = F (i + 1)) ∨ (r.1 ≠ .n ∧ Q r)))
    (he : ∃ r, exec o c (F n) = some r ∧ r.1 ≠ .n ∧ Q r) : ∃ r, loopK o kin c (F 0) = some r ∧ Q r :=
  loopK_any F n Q hk (fun i hi => by
    obtain ⟨⟨e, g⟩, hr, h | h⟩ := hs i hi
    · left
      obtain ⟨h1, h2⟩ := h
      simp only at h1 h2
      subst h1
      rw [hr, kE_n, h2]
    · exact .inr ⟨_, hr, h.1, h.2⟩) he
end
theorem run_ex [Glob] {tab : Nat → Option FCode} {ext : Orc} {f : Nat} {fc : FCode} (ht : tab f = some fc) {args : List V} {R : V → Prop} (hl : args.length = fc.np) (ha : args.all V.arg = true) (h : ∃ y, retE fc.res (exec (den tab ext) fc.body (args0 0 args)) = some y ∧ R y) : ∃ y, den tab ext f args = some y ∧ R y := by
  obtain ⟨y, h, hR⟩ := h
  exact ⟨y, VM.run ht hl ha h, hR⟩
end Go.VM
