/-
  Code, and functions. No program is named here.
-/
import Derived.Test.YtdlpbedneamebaaGreatDoorVmJ
import Derived.LoopN
set_option linter.unusedSectionVars false
namespace Go.VM
open Go.RowKit
variable [Glob]

section
variable {P : Program} {nt : Nat} {keep ret : List Nat} {S : Nat → Prop} {base : Nat} {w0 : World} {o : Orc}

def Ex.exit : Ex → Exit
  | .n => .normal
  | .e id => .exit id
  | .r => .ret

theorem cond_val {env : Env} {a : Act} {w : World} (hF : FI P nt keep S base w0 env a w) {c : Operand} {x : X} (hx : condX c = some x) {t : Bool} (hv : evalX o env x = some (.b t)) : a.eval c = .bool t := by
  unfold condX at hx
  split at hx
  · rename_i n
    cases hx
    simp only [evalX] at hv
    obtain ⟨Im, _, hI2, hE⟩ := hF.ents
    obtain ⟨u, hu, hr⟩ := look_sound hE (fun b h => (hI2 b h).2) hv
    rw [eval_tmp hu]
    cases hr; rfl
  · rename_i b
    cases hx
    simp only [evalX, Option.some.injEq, V.b.injEq] at hv
    subst hv
    rfl
  · cases hx

theorem exec_sound (ho : SoundO P o) (hm : P.follows .mixedOrders = true) : ∀ (c : Code) (es : List (Nat × List Nat)) (out : List Nat) (cc : C), comp P nt keep ret c es out = some cc →
    ∀ (env : Env) (ex : Ex) (env' : Env), exec o cc env = some (ex, env') → ∀ (a : Act) (w : World), FI P nt keep S base w0 env a w → ∀ (Q : Exit → Act → World → Prop), (∀ a' w', FI P nt keep S base w0 env' a' w' → Q ex.exit a' w') → c.wp P Q a w
  | .skip, es, out, cc, hc, env, ex, env', hx, a, w, hF, Q, hQ => by
    simp only [comp, Option.some.injEq] at hc
    subst hc
    simp only [exec, Option.some.injEq, Prod.mk.injEq] at hx
    obtain ⟨rfl, rfl⟩ := hx
    exact wp_skip (hQ a w hF)
  | .region id ops draw, es, out, cc, hc, env, ex, env', hx, a, w, hF, Q, hQ => by
    simp only [comp] at hc
    split at hc
    · rename_i rs hq
      cases hc
      simp only [exec, Option.bind_eq_some_iff, Option.some.injEq, Prod.mk.injEq] at hx
      obtain ⟨e, he, rfl, rfl⟩ := hx
      split at hq
      · split at hq
        · rename_i rs' hq'
          cases hq
          split at hq'
          · exact regQ_sound ho hm hq' he hF hQ
          · cases hq'
        · split at hq
          · rename_i hd
            subst hd
            exact regD_sound ho hm hq he hF hQ
          · cases hq
      · cases hq
    · simp only [Option.some.injEq] at hc
      cases hC : compR P nt keep ops draw with
      | none =>
        rw [hC] at hc
        simp only [Option.getD_none] at hc
        subst hc
        exact absurd hx (by simp [stuckR, exec, putsQ, evalX, evalXs, opQ])
      | some cc' =>
      rw [hC] at hc
      simp only [Option.getD_some] at hc
      subst hc
      have hc := hC
      unfold compR at hc
      split at hc
      · cases hc
      · rename_i hd
        simp only [Bool.not_eq_true', Bool.not_eq_false] at hd
        split at hc
        · simp only [Option.bind_eq_some_iff] at hc
          obtain ⟨ss, hss, hc⟩ := hc
          split at hc
          · rename_i hdr
            split at hc
            · rename_i hacy
              simp only [Option.some.injEq] at hc
              subst hc
              simp only [exec, Option.bind_eq_some_iff, Option.some.injEq, Prod.mk.injEq] at hx
              obtain ⟨e, he, rfl, rfl⟩ := hx
              rw [hdr]
              exact regDG_sound ho hm hss he hd hacy hF hQ
            · cases hc
          rename_i hdr
          simp only [Option.some.injEq] at hc
          subst hc
          simp only [exec, Option.bind_eq_some_iff, Option.some.injEq, Prod.mk.injEq] at hx
          obtain ⟨e, he, rfl, rfl⟩ := hx
          rw [show draw = false from by simpa using hdr]
          exact regG_sound ho hss he hd hF hQ
        rename_i ss hss
        split at hc
        · rename_i hdr
          split at hc
          · rename_i hacy
            simp only [Option.some.injEq] at hc
            subst hc
            simp only [exec, Option.bind_eq_some_iff, Option.some.injEq, Prod.mk.injEq] at hx
            obtain ⟨e, he, rfl, rfl⟩ := hx
            rw [hdr]
            exact regSD_sound ho hm hss he hd hacy hF hQ
          · cases hc
        · rename_i hdr
          simp only [Option.some.injEq] at hc
          subst hc
          simp only [exec, Option.bind_eq_some_iff, Option.some.injEq, Prod.mk.injEq] at hx
          obtain ⟨e, he, rfl, rfl⟩ := hx
          rw [show draw = false from by simpa using hdr]
          exact regS_sound ho hss he hd hF hQ
  | .seq x y, es, out, cc, hc, env, ex, env', hx, a, w, hF, Q, hQ => by
    simp only [comp, Option.bind_eq_some_iff, Option.some.injEq] at hc
    obtain ⟨c1, h1, c2, h2, rfl⟩ := hc
    simp only [exec, Option.bind_eq_some_iff] at hx
    obtain ⟨⟨e1, env1⟩, he1, hx⟩ := hx
    refine wp_seq (exec_sound ho hm x _ _ c1 h1 env e1 env1 he1 a w hF _ fun a1 w1 hF1 => ?_)
    cases e1 with
    | n => exact exec_sound ho hm y _ _ c2 h2 env1 ex env' hx a1 w1 hF1 Q hQ
    | e id =>
      simp only [Option.some.injEq, Prod.mk.injEq] at hx
      obtain ⟨rfl, rfl⟩ := hx
      exact hQ a1 w1 hF1
    | r =>
      simp only [Option.some.injEq, Prod.mk.injEq] at hx
      obtain ⟨rfl, rfl⟩ := hx
      exact hQ a1 w1 hF1
  | .cond c x y, es, out, cc, hc, env, ex, env', hx, a, w, hF, Q, hQ => by
    simp only [comp, Option.bind_eq_some_iff, Option.some.injEq] at hc
    obtain ⟨cx, hcx, c1, h1, c2, h2, rfl⟩ := hc
    simp only [exec, Option.bind_eq_some_iff] at hx
    obtain ⟨v, hv, hx⟩ := hx
    cases v <;> first | (cases hx; done) | skip
    rename_i t
    refine wp_cond (cond_val hF hcx hv) ?_
    cases t with
    | true => exact exec_sound ho hm x _ _ c1 h1 env ex env' hx a w hF Q hQ
    | false => exact exec_sound ho hm y _ _ c2 h2 env ex env' hx a w hF Q hQ
  | .block id x, es, out, cc, hc, env, ex, env', hx, a, w, hF, Q, hQ => by
    simp only [comp, Option.bind_eq_some_iff, Option.some.injEq] at hc
    obtain ⟨c1, h1, rfl⟩ := hc
    simp only [exec, Option.bind_eq_some_iff] at hx
    obtain ⟨⟨e1, env1⟩, he1, hx⟩ := hx
    refine wp_block (exec_sound ho hm x _ _ c1 h1 env e1 env1 he1 a w hF _ fun a1 w1 hF1 => ?_)
    cases e1 with
    | n =>
      simp only [Option.some.injEq, Prod.mk.injEq] at hx
      obtain ⟨rfl, rfl⟩ := hx
      exact hQ a1 w1 hF1
    | e j =>
      simp only at hx
      simp only [Ex.exit, Exit.inBlock]
      split at hx
      · simp only [Option.some.injEq, Prod.mk.injEq] at hx
        obtain ⟨rfl, rfl⟩ := hx
        rw [if_pos ‹_›]; exact hQ a1 w1 hF1
      · simp only [Option.some.injEq, Prod.mk.injEq] at hx
        obtain ⟨rfl, rfl⟩ := hx
        rw [if_neg ‹_›]; exact hQ a1 w1 hF1
    | r =>
      simp only [Option.some.injEq, Prod.mk.injEq] at hx
      obtain ⟨rfl, rfl⟩ := hx
      exact hQ a1 w1 hF1
  | .loop x, es, out, cc, hc, env, ex, env', hx, a, w, hF, Q, hQ => by
    simp only [comp, Option.bind_eq_some_iff, Option.some.injEq] at hc
    obtain ⟨c1, h1, rfl⟩ := hc
    simp only [exec] at hx
    unfold looped at hx
    split at hx
    · rename_i hex
      generalize Classical.choose hex = n at hx
      refine wp_loop_rounds n ?_
      have key : ∀ (n : Nat) (env : Env) (a : Act) (w : World), rounds (fun e => exec o c1 (VM.keepE (sort1 ((live ret (.loop x) es out).filter fun t => keep.contains t)) e)) n env = some (ex, env') → FI P nt keep S base w0 env a w → Code.rounds P x Q n a w := by
        intro n
        induction n with
        | zero => intro env a w h; simp [rounds] at h
        | succ n ih =>
          intro env a w h hF
          simp only [rounds, Option.bind_eq_some_iff] at h
          obtain ⟨⟨e1, env1⟩, he1, h⟩ := h
          refine exec_sound ho hm x _ _ c1 h1 _ e1 env1 he1 a w (hF.keepE _) _ fun a1 w1 hF1 => ?_
          cases e1 with
          | n => exact ih env1 a1 w1 h hF1
          | e id =>
            simp only [Option.some.injEq, Prod.mk.injEq] at h
            obtain ⟨rfl, rfl⟩ := h
            exact hQ a1 w1 hF1
          | r =>
            simp only [Option.some.injEq, Prod.mk.injEq] at h
            obtain ⟨rfl, rfl⟩ := h
            exact hQ a1 w1 hF1
      exact key n env a w hx hF
    · cases hx
  | .exit id, es, out, cc, hc, env, ex, env', hx, a, w, hF, Q, hQ => by
    simp only [comp, Option.some.injEq] at hc
    subst hc
    simp only [exec, Option.some.injEq, Prod.mk.injEq] at hx
    obtain ⟨rfl, rfl⟩ := hx
    exact wp_exit (hQ a w (hF.keepE _))
  | .ret, es, out, cc, hc, env, ex, env', hx, a, w, hF, Q, hQ => by
    simp only [comp, Option.some.injEq] at hc
    subst hc
    simp only [exec, Option.some.injEq, Prod.mk.injEq] at hx
    obtain ⟨rfl, rfl⟩ := hx
    exact wp_ret (hQ a w (hF.keepE _))
  | .rangeFunc _ _ _ _, _, _, _, hc, _, _, _, _, _, _, _, _, _ => by simp [comp] at hc
  | .goto _, _, _, _, hc, _, _, _, _, _, _, _, _, _ => by simp [comp] at hc
  | .label _, _, _, _, hc, _, _, _, _, _, _, _, _, _ => by simp [comp] at hc
  | .scope _, _, _, _, hc, _, _, _, _, _, _, _, _, _ => by simp [comp] at hc
end
end Go.VM
/-
  Functions, and all calls to any depth. No program is named here.
-/
namespace Go.VM
open Go.RowKit
variable [Glob]

section
variable {P : Program} {nt : Nat} {keep ret : List Nat} {S : Nat → Prop} {base : Nat} {w0 : World} {o : Orc} {a : Act} {w : World}

theorem get_args0 : ∀ (xs : List V) (i n : Nat), get n (args0 i xs) = if n < i then none else xs[n - i]?
  | [], i, n => by simp [args0, get]
  | x :: r, i, n => by
    simp only [args0, get, get_args0 r]
    by_cases h : n = i
    · subst h; simp
    · rw [if_neg h]
      by_cases h2 : n < i
      · rw [if_pos (by omega), if_pos h2]
      · rw [if_neg (by omega), if_neg h2, show n - i = (n - (i + 1)) + 1 from by omega, List.getElem?_cons_succ]
theorem srt_args0 : ∀ (xs : List V) (i : Nat), Srt (args0 i xs) ∧ ∀ p ∈ args0 i xs, i ≤ p.1
  | [], i => ⟨Srt.nil, by simp [args0]⟩
  | x :: r, i => by
    obtain ⟨h1, h2⟩ := srt_args0 r (i + 1)
    refine ⟨List.pairwise_cons.2 ⟨fun p hp => ?_, h1⟩, fun p hp => ?_⟩
    · have := h2 p hp; show i < p.1; omega
    · rcases List.mem_cons.1 hp with rfl | hp
      · exact Nat.le_refl _
      · have := h2 p hp; omega

theorem FI.start {xs : List V} {vs : List Value} (hS : ∀ b, S b → b < w.heap.size) (hG : GOK S w) (hr : Reps S w vs xs) (harg : xs.all V.arg = true) (hnt : xs.length ≤ nt) (hkeep : ∀ n, n < xs.length → n ∈ keep) (hsz : vs.toArray.size ≤ nt) :
    FI P nt keep S w.heap.size w (args0 0 xs) { tmps := vs.toArray ++ Array.replicate (nt - vs.toArray.size) undef, defers := [] } w := by
  have hg : ∀ n x, get n (args0 0 xs) = some x → ∃ u, vs[n]? = some u ∧ Rep S w u x ∧ n < xs.length ∧ x.names = none ∧ x.isOwn = false ∧ x.smp = true := by
    intro n x hx
    rw [get_args0] at hx
    simp only [Nat.not_lt_zero, if_false, Nat.sub_zero] at hx
    obtain ⟨u, hu, hrep⟩ := hr.getD hx
    have hax := List.all_eq_true.1 harg x (List.mem_of_getElem? hx)
    refine ⟨u, hu, hrep, (List.getElem?_eq_some_iff.1 hx).1, (flat_smp hrep).1, (flat_smp hrep).2.1, smp_of hrep fun ys e => ?_⟩
    subst e; simp [V.arg] at hax
  refine ⟨(srt_args0 xs 0).1, ?_, rfl, Below.refl _ _, fun _ _ => rfl, Nat.le_refl _, fun n x hx => ?_, S, fun _ h => h, fun b h => ⟨.inl h, hS b h⟩, ?_⟩
  · simp; have : vs.length ≤ nt := by simpa using hsz
    omega
  · obtain ⟨u, _, _, h, _⟩ := hg n x hx
    exact ⟨hkeep n h, by omega⟩
  · refine ⟨fun n x hx => ?_, fun n x m hx hm => ?_, fun n c n' c' g h _ => ?_, hG⟩
    · obtain ⟨u, hu, hrep, _, _, ho, hsm⟩ := hg n x hx
      have hlt := (List.getElem?_eq_some_iff.1 hu).1
      refine ⟨u, ?_, ?_⟩
      · show (vs.toArray ++ _)[n]? = some u
        rw [Array.getElem?_append_left (by simpa using hlt)]; simpa using hu
      · rw [Ent.res1 hsm]
        cases x <;> first | exact hrep | (simp [V.isOwn] at ho; done) | (simp [V.smp] at hsm; done)
    · obtain ⟨u, _, _, _, h, _⟩ := hg n x hx
      rw [h] at hm; cases hm
    · exfalso
      cases c with
      | none =>
        obtain ⟨x, u, hx, ho, _⟩ := h
        obtain ⟨_, _, _, _, _, h, _⟩ := hg n x hx
        rw [ho] at h; cases h
      | some j =>
        obtain ⟨ys, us, y, u, hx, _⟩ := h
        obtain ⟨_, _, _, _, _, _, h⟩ := hg n _ hx
        simp [V.smp] at h

theorem resV_sound {env env1 : Env} {Im : Nat → Prop} (hE : Ents P Im w base env (tm a)) (hs : Srt env) {r : ResultVar} {rv : RV} (hr : resOf P [r] = some [rv]) {y : V} (hv : resV env rv = some (y, env1)) :
    ∃ u, (match r with | .tmp t => pure (a.tmps.getD t undef) | .cell c t => do loadVar t (← asAddr (a.tmps.getD c undef)) : Sem Value).run P w = .ok u w ∧ Res1 P Im w base u y ∧ Ents P Im w base env1 (tm a) ∧ Srt env1 ∧
      (∀ n c g, Owns env1 (tm a) n c g → Owns env (tm a) n c g) ∧ (y.isOwn = true → ∀ g, blkOf u = some g → (∃ m c, Owns env (tm a) m c g) ∧ ∀ n c, ¬ Owns env1 (tm a) n c g) := by
  have getD_tm : ∀ {t : Nat} {u : Value}, tm a t = some u → a.tmps.getD t undef = u := fun {t u} h => by
    have h' : a.tmps[t]? = some u := h
    simp [Array.getD_eq_getD_getElem?, h']
  have slot : ∀ (t m : Nat) (x : V) (u : Value), tm a t = some u → get m env = some x → tm a m = some u → x.smp = true → env1 = (if x.isOwn then put m .ud env else env) → ∃ u, (pure (a.tmps.getD t undef) : Sem Value).run P w = .ok u w ∧ Res1 P Im w base u x ∧ Ents P Im w base env1 (tm a) ∧ Srt env1 ∧
      (∀ n c g, Owns env1 (tm a) n c g → Owns env (tm a) n c g) ∧ (x.isOwn = true → ∀ g, blkOf u = some g → (∃ m c, Owns env (tm a) m c g) ∧ ∀ n c, ¬ Owns env1 (tm a) n c g) := by
    intro t m x u ht hx hu hsm he
    obtain ⟨u', hu', hent⟩ := hE.ent m x hx
    have := hu.symm.trans hu'; cases this
    rw [Ent.res1 hsm] at hent
    refine ⟨u, by rw [getD_tm ht]; rfl, hent, ?_⟩
    by_cases ho : x.isOwn = true
    · rw [if_pos ho] at he
      subst he
      obtain ⟨h1, h2⟩ := hE.spent hx
      refine ⟨h1, hs.put _ _, fun n c g h => (h2 n c g h).2, fun _ g hg => ?_⟩
      have hown : Owns env (tm a) m none g := ⟨x, u, hx, ho, hu, hg⟩
      exact ⟨⟨m, none, hown⟩, fun n c h => (h2 n c g h).1 (hE.apart _ _ _ _ _ (h2 n c g h).2 hown).1⟩
    · rw [if_neg ho] at he
      subst he
      exact ⟨hE, hs, fun _ _ _ h => h, fun h => absurd h ho⟩
  cases r with
  | tmp t =>
    simp only [resOf, Option.map_some, Option.some.injEq, List.cons.injEq, and_true] at hr
    subst hr
    simp only [resV] at hv
    cases hx : get t env with
    | none => rw [hx] at hv; cases hv
    | some x =>
      rw [hx] at hv
      simp only [Option.bind_some] at hv
      obtain ⟨u, hu, hent⟩ := hE.ent t x hx
      cases x with
      | al m =>
        simp only at hv
        cases hz : get m env with
        | none => rw [hz] at hv; cases hv
        | some z =>
          rw [hz] at hv
          simp only [Option.bind_some] at hv
          cases z <;> first | (cases hv; done) | (simp only [Option.some.injEq, Prod.mk.injEq] at hv; obtain ⟨rfl, rfl⟩ := hv; exact slot t m _ u hu hz hent rfl rfl)
      | _ => first | (cases hv; done) | (simp only [Option.some.injEq, Prod.mk.injEq] at hv; obtain ⟨rfl, rfl⟩ := hv; exact slot t t _ u hu hx hu rfl rfl)
  | cell c t =>
    simp only [resOf] at hr
    split at hr
    · rename_i hok
      simp only [Option.map_some, Option.some.injEq, List.cons.injEq, and_true] at hr
      subst hr
      simp only [resV, Option.bind_eq_some_iff, Option.some.injEq, Prod.mk.injEq] at hv
      obtain ⟨x, hx, y', hy, rfl, rfl⟩ := hv
      obtain ⟨cs, he, hl, hval⟩ := inv_ld hy
      simp only [List.cons.injEq, and_true] at he
      subst he
      obtain ⟨ad, vs, hT, hc, hrep, hcell⟩ := look_ptr hE hx
      obtain ⟨u, hru, hrun⟩ := load_at hok hc hrep hcell hl hval
      have hsm : y'.smp = true := smp_of hru fun ys e => by
        subst e
        split at hval
        · cases hval
        · exact absurd (hc _ (List.mem_of_getElem? hval)) (by simp [V.cell])
      have ho := rep_kind hru
      refine ⟨u, ?_, ?_, hE, hs, fun _ _ _ h => h, fun h => by rw [ho] at h; cases h⟩
      · simpa [Instr.loadAt, Instr.sureAddr, getD_tm hT, asAddr] using hrun
      · cases y' <;> first | exact hru | (simp [V.isOwn] at ho; done) | (simp [V.smp] at hsm; done)
    · cases hr

theorem resVs_sound {Im : Nat → Prop} : ∀ {rs : List ResultVar} {rvs : List RV} {env : Env} {vs : List V}, Ents P Im w base env (tm a) → Srt env → resOf P rs = some rvs → resVs rvs env = some vs →
    ∃ us : List Value, (rs.mapM (m := Sem) fun | .tmp t => pure (a.tmps.getD t undef) | .cell c t => do loadVar t (← asAddr (a.tmps.getD c undef))).run P w = .ok us w ∧ us.length = vs.length ∧ (∀ (j : Nat) u y, us[j]? = some u → vs[j]? = some y → Res1 P Im w base u y) ∧ apart us vs ∧
      (∀ (j : Nat) u y g, us[j]? = some u → vs[j]? = some y → y.isOwn = true → blkOf u = some g → ∃ m c, Owns env (tm a) m c g)
  | [], rvs, env, vs, hE, hs, hr, hv => by
    simp only [resOf, Option.some.injEq] at hr
    subst hr
    simp only [resVs, Option.some.injEq] at hv
    subst hv
    exact ⟨[], by simp, rfl, by simp, fun i j u u' y y' g _ h => by simp at h, by simp⟩
  | r :: rs, rvs, env, vs, hE, hs, hr, hv => by
    obtain ⟨rv, rvs', hrv, hrvs, rfl⟩ : ∃ rv rvs', resOf P [r] = some [rv] ∧ resOf P rs = some rvs' ∧ rvs = rv :: rvs' := by
      cases r with
      | tmp t =>
        simp only [resOf, Option.map_eq_some_iff] at hr
        obtain ⟨rvs', h, rfl⟩ := hr
        exact ⟨.tmp t, rvs', by simp [resOf], h, rfl⟩
      | cell c t =>
        simp only [resOf] at hr
        split at hr
        · rename_i hok
          simp only [Option.map_eq_some_iff] at hr
          obtain ⟨rvs', h, rfl⟩ := hr
          exact ⟨_, rvs', by simp only [resOf]; rw [if_pos hok]; rfl, h, rfl⟩
        · cases hr
    simp only [resVs, Option.bind_eq_some_iff, Option.some.injEq] at hv
    obtain ⟨⟨y, env1⟩, h1, ys, h2, rfl⟩ := hv
    obtain ⟨u, hrun, hres, hE1, hs1, hown, hout⟩ := resV_sound hE hs hrv h1
    obtain ⟨us, hruns, hl, hress, hap, hos⟩ := resVs_sound hE1 hs1 hrvs h2
    refine ⟨u :: us, ?_, by simp [hl], fun j v z hj hz => ?_, fun i j v v' z z' g hij hi hj hzi hzj ho ho' hg hg' => ?_, fun j v z g hj hz ho hg => ?_⟩
    · rw [List.mapM_cons]
      simp only [Sem.run_bind]
      rw [hrun]
      simp only [Result.andThen_ok, hruns, Sem.run_pure]
    · cases j with
      | zero => simp at hj hz; subst hj; subst hz; exact hres
      | succ j => exact hress j v z (by simpa using hj) (by simpa using hz)
    · cases i with
      | zero =>
        simp at hi hzi; subst hi; subst hzi
        cases j with
        | zero => exact hij rfl
        | succ j =>
          obtain ⟨m, c, h⟩ := hos j v' z' g (by simpa using hj) (by simpa using hzj) ho' hg'
          exact (hout ho g hg).2 m c h
      | succ i =>
        cases j with
        | zero =>
          simp at hj hzj; subst hj; subst hzj
          obtain ⟨m, c, h⟩ := hos i v z g (by simpa using hi) (by simpa using hzi) ho hg
          exact (hout ho' g hg').2 m c h
        | succ j => exact hap i j v v' z z' g (by omega) (by simpa using hi) (by simpa using hj) (by simpa using hzi) (by simpa using hzj) ho ho' hg hg'
    · cases j with
      | zero => simp at hj hz; subst hj; subst hz; exact (hout ho g hg).1
      | succ j =>
        obtain ⟨m, c, h⟩ := hos j v z g (by simpa using hj) (by simpa using hz) ho hg
        exact ⟨m, c, hown m c g h⟩

theorem mem_union {x : Nat} {l m : List Nat} (h : x ∈ l) : x ∈ VM.union l m := List.mem_append_left _ h

theorem ret_sound {fn : Func} {rs : List RV} (hres : resOf P fn.results.toList = some rs) {env : Env} {a' : Act} {w' : World} {w : World} (hF' : FI P nt keep S w.heap.size w env a' w') {y : V} (hv : retV rs env = some y) :
    a'.defers = [] ∧ ∃ v, (results fn a'.tmps).run P w' = .ok v w' ∧ ∃ v', Ending.returned v = .returned v' ∧ Below w.heap.size w w' ∧
          ∃ S' : Nat → Prop, (∀ b, S b → S' b) ∧ (∀ b, S' b → (S b ∨ w.heap.size ≤ b) ∧ b < w'.heap.size) ∧ Res P S' w' w.heap.size v' y := by
  obtain ⟨Im, hI1, hI2, hE⟩ := hF'.ents
  unfold retV at hv
  simp only [Option.map_eq_some_iff] at hv
  obtain ⟨ys, hys, hy⟩ := hv
  obtain ⟨us, hrun, hl, hh, hap, _⟩ := resVs_sound hE hF'.srt hres hys
  refine ⟨hF'.defers, (if h : us.toArray.size = 1 then us.toArray[0] else .tuple us.toArray), ?_, _, rfl, hF'.below, Im, hI1, hI2, ?_⟩
  · unfold results
    rw [Array.mapM_eq_mapM_toList]
    simp only [map_eq_pure_bind, Sem.run_bind]
    erw [hrun]
    simp only [Result.andThen_ok, Sem.run_pure]
  · match ys, us, hl, hh, hy with
    | [y1], [u1], _, hh, hy =>
      simp only at hy
      subst hy
      have := hh 0 u1 y1 rfl rfl
      simp only [List.size_toArray, List.length_cons, List.length_nil, Nat.zero_add, dite_true]
      rw [Res.eq1]
      · exact this
      · intro zs e; subst e; exact this
    | [], [], _, hh, hy =>
      simp only at hy
      subst hy
      exact ⟨[], rfl, rfl, by simp, fun i j u u' y y' g _ h => by simp at h⟩
    | y1 :: y2 :: yr, u1 :: u2 :: ur, hl, hh, hy =>
      simp only at hy
      subst hy
      have h1 : ¬ (u1 :: u2 :: ur).toArray.size = 1 := by simp
      rw [dif_neg h1]
      exact ⟨_, rfl, hl, hh, hap⟩

theorem body_sound (ho : SoundO P o) {f : FuncId} {fn : Func} (hf : P.funcs[f]? = some fn) {fc : FCode} (hc : compile P fn = some fc) {xs : List V} {y : V} (hv : bodyV o fc xs = some y) : PF P f xs y := by
  unfold compile at hc
  simp only [Option.bind_eq_some_iff] at hc
  obtain ⟨c, hbody, b, hcomp, rs, hres, hc⟩ := hc
  split at hc
  · rename_i hcond
    cases hc
    unfold bodyV at hv
    split at hv
    · rename_i hargs
      simp only [Option.bind_eq_some_iff] at hv
      obtain ⟨⟨ex, env'⟩, hexec, hv⟩ := hv
      intro S w vs hS hG hr
      refine calls_of_wp hf hbody ?_
      have hlen : vs.length = fn.params.size + fn.nfree := hr.1.trans hargs.1
      have hF := FI.start (P := P) (nt := fn.ntmps) (keep := keepOf fn c) hS hG hr hargs.2 (by rw [hargs.1]; exact hcond.1) (fun n hn => mem_union (List.mem_range.2 (by rw [hargs.1] at hn; exact hn))) (by simp [hlen]; exact hcond.1)
      refine exec_sound ho hcond.2 c [] (resTmps fn) b hcomp _ ex env' hexec _ w hF _ fun a' w' hF' => ?_
      have fin := fun hv => ret_sound (P := P) hres hF' (y := y) hv
      cases ex with
      | n => exact fin hv
      | r => exact fin hv
      | e id => cases hv
    · cases hv
  · cases hc
end
end Go.VM
/-
  What is known of functions, one after the other. No program is named here.
-/
namespace Go.VM
open Go.RowKit
variable [Glob]

def add (o : Orc) (f : Nat) (s : List V → Option V) : Orc := fun g xs => if g = f then s xs else o g xs
def o0 : Orc := fun _ _ => none
theorem sound0 (P : Program) (hM : MutOK P) : SoundO P o0 := ⟨hM, fun _ _ _ h => by simp [o0] at h⟩

theorem SoundO.ext {P : Program} {o : Orc} (ho : SoundO P o) {f : Nat} (hok : okFn P f = true) {s : List V → Option V} (hs : ∀ xs y, s xs = some y → PF P f xs y) : SoundO P (add o f s) := by
  refine ⟨ho.1, ?_⟩
  intro g xs y h
  unfold VM.add at h
  split at h
  · rename_i e; subst e; exact ⟨hok, hs xs y h⟩
  · exact ho.2 g xs y h
theorem SoundO.add {P : Program} {o : Orc} (ho : SoundO P o) {f : Nat} {fn : Func} (hf : P.funcs[f]? = some fn) (hok : okFn P f = true) {fc : FCode} (hc : compile P fn = some fc) {s : List V → Option V} (hs : ∀ xs y, s xs = some y → bodyV o fc xs = some y) : SoundO P (add o f s) :=
  ho.ext hok fun xs y h => body_sound ho hf hc (hs xs y h)
end Go.VM
