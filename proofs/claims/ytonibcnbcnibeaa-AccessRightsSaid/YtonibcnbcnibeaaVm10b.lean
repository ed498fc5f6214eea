/-
  Code, and functions. No program is named here.
-/
import Derived.Test.YtonibcnbcnibeaaVm10a
import Derived.LoopN
namespace Go.VM
open Go.RowKit

section
variable {P : Program} {nt : Nat} {keep ret : List Nat} {S : Nat → Prop} {base : Nat} {w0 : World} {o : Orc}

def Ex.exit : Ex → Exit
  | .n => .normal
  | .e id => .exit id
  | .r => .ret

theorem cond_val {env : Env} {a : Act} {w : World} (hF : FI P nt keep S base w0 env a w) {c : Operand} {x : X} (hx : condX c = some x) {t : Bool} (hv : evalX o env x = some (.b t)) : a.eval c = .bool t := by
  unfold condX at hx
  split at hx
  · rename_i n
    cases hx
    simp only [evalX] at hv
    obtain ⟨Im, _, hI2, hE⟩ := hF.ents
    obtain ⟨u, hu, hr⟩ := look_sound hE (fun b h => (hI2 b h).2) hv
    rw [eval_tmp hu]
    cases hr; rfl
  · rename_i b
    cases hx
    simp only [evalX, Option.some.injEq, V.b.injEq] at hv
    subst hv
    rfl
  · cases hx

/-- Code does what the evaluator says. -/
theorem exec_sound (ho : SoundO P o) (hm : P.follows .mixedOrders = true) : ∀ (c : Code) (es : List (Nat × List Nat)) (out : List Nat) (cc : C), comp P nt keep ret c es out = some cc →
    ∀ (env : Env) (ex : Ex) (env' : Env), exec o cc env = some (ex, env') → ∀ (a : Act) (w : World), FI P nt keep S base w0 env a w → ∀ (Q : Exit → Act → World → Prop), (∀ a' w', FI P nt keep S base w0 env' a' w' → Q ex.exit a' w') → c.wp P Q a w
  | .skip, es, out, cc, hc, env, ex, env', hx, a, w, hF, Q, hQ => by
    simp only [comp, Option.some.injEq] at hc
    subst hc
    simp only [exec, Option.some.injEq, Prod.mk.injEq] at hx
    obtain ⟨rfl, rfl⟩ := hx
    exact wp_skip (hQ a w hF)
  | .region id ops draw, es, out, cc, hc, env, ex, env', hx, a, w, hF, Q, hQ => by
    simp only [comp] at hc
    split at hc
    · rename_i rs hq
      cases hc
      simp only [exec, Option.bind_eq_some_iff, Option.some.injEq, Prod.mk.injEq] at hx
      obtain ⟨e, he, rfl, rfl⟩ := hx
      split at hq
      · exact regQ_sound ho hm hq he hF hQ
      · cases hq
    · split at hc
      · cases hc
      · rename_i hd
        simp only [Bool.or_eq_true, Bool.not_eq_true', not_or, Bool.not_eq_true, Bool.not_eq_false] at hd
        simp only [Option.bind_eq_some_iff, Option.some.injEq] at hc
        obtain ⟨ss, hss, rfl⟩ := hc
        simp only [exec, Option.bind_eq_some_iff, Option.some.injEq, Prod.mk.injEq] at hx
        obtain ⟨e, he, rfl, rfl⟩ := hx
        rw [hd.1]
        exact regS_sound ho hss he hd.2 hF hQ
  | .seq x y, es, out, cc, hc, env, ex, env', hx, a, w, hF, Q, hQ => by
    simp only [comp, Option.bind_eq_some_iff, Option.some.injEq] at hc
    obtain ⟨c1, h1, c2, h2, rfl⟩ := hc
    simp only [exec, Option.bind_eq_some_iff] at hx
    obtain ⟨⟨e1, env1⟩, he1, hx⟩ := hx
    refine wp_seq (exec_sound ho hm x _ _ c1 h1 env e1 env1 he1 a w hF _ fun a1 w1 hF1 => ?_)
    cases e1 with
    | n => exact exec_sound ho hm y _ _ c2 h2 env1 ex env' hx a1 w1 hF1 Q hQ
    | e id =>
      simp only [Option.some.injEq, Prod.mk.injEq] at hx
      obtain ⟨rfl, rfl⟩ := hx
      exact hQ a1 w1 hF1
    | r =>
      simp only [Option.some.injEq, Prod.mk.injEq] at hx
      obtain ⟨rfl, rfl⟩ := hx
      exact hQ a1 w1 hF1
  | .cond c x y, es, out, cc, hc, env, ex, env', hx, a, w, hF, Q, hQ => by
    simp only [comp, Option.bind_eq_some_iff, Option.some.injEq] at hc
    obtain ⟨cx, hcx, c1, h1, c2, h2, rfl⟩ := hc
    simp only [exec, Option.bind_eq_some_iff] at hx
    obtain ⟨v, hv, hx⟩ := hx
    cases v <;> first | (cases hx; done) | skip
    rename_i t
    refine wp_cond (cond_val hF hcx hv) ?_
    cases t with
    | true => exact exec_sound ho hm x _ _ c1 h1 env ex env' hx a w hF Q hQ
    | false => exact exec_sound ho hm y _ _ c2 h2 env ex env' hx a w hF Q hQ
  | .block id x, es, out, cc, hc, env, ex, env', hx, a, w, hF, Q, hQ => by
    simp only [comp, Option.bind_eq_some_iff, Option.some.injEq] at hc
    obtain ⟨c1, h1, rfl⟩ := hc
    simp only [exec, Option.bind_eq_some_iff] at hx
    obtain ⟨⟨e1, env1⟩, he1, hx⟩ := hx
    refine wp_block (exec_sound ho hm x _ _ c1 h1 env e1 env1 he1 a w hF _ fun a1 w1 hF1 => ?_)
    cases e1 with
    | n =>
      simp only [Option.some.injEq, Prod.mk.injEq] at hx
      obtain ⟨rfl, rfl⟩ := hx
      exact hQ a1 w1 hF1
    | e j =>
      simp only at hx
      simp only [Ex.exit, Exit.inBlock]
      split at hx
      · simp only [Option.some.injEq, Prod.mk.injEq] at hx
        obtain ⟨rfl, rfl⟩ := hx
        rw [if_pos ‹_›]; exact hQ a1 w1 hF1
      · simp only [Option.some.injEq, Prod.mk.injEq] at hx
        obtain ⟨rfl, rfl⟩ := hx
        rw [if_neg ‹_›]; exact hQ a1 w1 hF1
    | r =>
      simp only [Option.some.injEq, Prod.mk.injEq] at hx
      obtain ⟨rfl, rfl⟩ := hx
      exact hQ a1 w1 hF1
  | .loop x, es, out, cc, hc, env, ex, env', hx, a, w, hF, Q, hQ => by
    simp only [comp, Option.bind_eq_some_iff, Option.some.injEq] at hc
    obtain ⟨c1, h1, rfl⟩ := hc
    simp only [exec] at hx
    unfold looped at hx
    split at hx
    · rename_i hex
      generalize Classical.choose hex = n at hx
      refine wp_loop_rounds n ?_
      have key : ∀ (n : Nat) (env : Env) (a : Act) (w : World), rounds (fun e => exec o c1 (VM.keepE (sort1 ((live ret (.loop x) es out).filter fun t => keep.contains t)) e)) n env = some (ex, env') → FI P nt keep S base w0 env a w → Code.rounds P x Q n a w := by
        intro n
        induction n with
        | zero => intro env a w h; simp [rounds] at h
        | succ n ih =>
          intro env a w h hF
          simp only [rounds, Option.bind_eq_some_iff] at h
          obtain ⟨⟨e1, env1⟩, he1, h⟩ := h
          refine exec_sound ho hm x _ _ c1 h1 _ e1 env1 he1 a w (hF.keepE _) _ fun a1 w1 hF1 => ?_
          cases e1 with
          | n => exact ih env1 a1 w1 h hF1
          | e id =>
            simp only [Option.some.injEq, Prod.mk.injEq] at h
            obtain ⟨rfl, rfl⟩ := h
            exact hQ a1 w1 hF1
          | r =>
            simp only [Option.some.injEq, Prod.mk.injEq] at h
            obtain ⟨rfl, rfl⟩ := h
            exact hQ a1 w1 hF1
      exact key n env a w hx hF
    · cases hx
  | .exit id, es, out, cc, hc, env, ex, env', hx, a, w, hF, Q, hQ => by
    simp only [comp, Option.some.injEq] at hc
    subst hc
    simp only [exec, Option.some.injEq, Prod.mk.injEq] at hx
    obtain ⟨rfl, rfl⟩ := hx
    exact wp_exit (hQ a w (hF.keepE _))
  | .ret, es, out, cc, hc, env, ex, env', hx, a, w, hF, Q, hQ => by
    simp only [comp, Option.some.injEq] at hc
    subst hc
    simp only [exec, Option.some.injEq, Prod.mk.injEq] at hx
    obtain ⟨rfl, rfl⟩ := hx
    exact wp_ret (hQ a w (hF.keepE _))
  | .rangeFunc _ _ _ _, _, _, _, hc, _, _, _, _, _, _, _, _, _ => by simp [comp] at hc
  | .goto _, _, _, _, hc, _, _, _, _, _, _, _, _, _ => by simp [comp] at hc
  | .label _, _, _, _, hc, _, _, _, _, _, _, _, _, _ => by simp [comp] at hc
  | .scope _, _, _, _, hc, _, _, _, _, _, _, _, _, _ => by simp [comp] at hc
end
end Go.VM
