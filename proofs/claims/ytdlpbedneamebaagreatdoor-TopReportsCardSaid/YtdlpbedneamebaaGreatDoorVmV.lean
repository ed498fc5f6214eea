/-
  Functions that defer a closure: the code behind the deferring, run by the evaluator while a call is laid by. No program is named here.
-/
import Derived.Test.YtdlpbedneamebaaGreatDoorVmK
import Derived.Test.YtdlpbedneamebaaGreatDoorVmN
import Derived.Defers
set_option linter.unusedSectionVars false
namespace Go.VM
open Go.RowKit
variable [Glob]
inductive DC where
  | skip | ret
  | reg (ss : List St)
  | seq (a b : DC)
  | cond (x : X) (a b : DC)
def execD (o : Orc) : DC → Env → Option (Ex × Env)
  | .skip, env => some (.n, env)
  | .ret, env => some (.r, env)
  | .reg ss, env => (stepsS o ss env).bind fun e => some (.n, e)
  | .seq a b, env => (execD o a env).bind fun p => match p.1 with
    | .n => execD o b p.2
    | e => some (e, p.2)
  | .cond x a b, env => (evalX o env x).bind fun v => match v with
    | .b t => if t then execD o a env else execD o b env
    | _ => none
def compD (P : Program) (nt : Nat) (K : List Nat) : Code → Option DC
  | .skip => some .skip
  | .ret => some .ret
  | .region _ ops false => if ops.toList.all (fun o => match o.dst with | some d => decide (d < nt) && !K.contains d | none => true) = true then (toSts P ops.toList).map .reg else none
  | .seq a b => (compD P nt K a).bind fun x => (compD P nt K b).map (.seq x)
  | .cond c a b => (condX c).bind fun x => (compD P nt K a).bind fun y => (compD P nt K b).map (.cond x y)
  | _ => none
section
variable {P : Program} {nt : Nat} {S : Nat → Prop} {base : Nat} {w0 : World} {env env' : Env} {a a0 : Act} {w : World} {o : Orc} {K : List Nat}
structure FD (P : Program) (nt : Nat) (S : Nat → Prop) (base : Nat) (w0 : World) (K : List Nat) (a0 : Act) (env : Env) (a : Act) (w : World) : Prop where
  fi : FI P nt (List.range nt) S base w0 env { a with defers := [] } w
  df : a.defers = a0.defers
  tm : ∀ n ∈ K, tm a n = tm a0 n
theorem put_df (a : Act) (d : Option Nat) (u : Value) : { a.put d u with defers := [] } = Act.put { a with defers := [] } d u := by cases d <;> rfl
theorem FD.put (h : FD P nt S base w0 K a0 env a w) {d : Option Nat} (hd : ∀ n, d = some n → n ∉ K) {u : Value} {env1 : Env} {w1 : World} (hf : FI P nt (List.range nt) S base w0 env1 (Act.put { a with defers := [] } d u) w1) : FD P nt S base w0 K a0 env1 (a.put d u) w1 := by
  refine ⟨by rw [put_df]; exact hf, ?_, fun n hn => ?_⟩
  · rw [← h.df]; cases d <;> rfl
  · rw [← h.tm n hn]
    cases d with
    | none => rfl
    | some d =>
      have : d ≠ n := fun e => hd d rfl (e ▸ hn)
      unfold VM.tm Act.put
      simp only [Array.getElem?_setIfInBounds]
      rw [if_neg this]
theorem stepsD_sound (ho : SoundO P o) {Q : Exit → Act → World → Prop} {opsL : List Oper} : ∀ (r : List Oper) (ss : List St) (n : Nat) (env : Env) (a : Act) (w : World), toSts P r = some ss → stepsS o ss env = some env' → opsL.drop n = r →
    (∀ op ∈ r, ∀ d, op.dst = some d → d < nt ∧ d ∉ K) → FD P nt S base w0 K a0 env a w → (∀ a' w', FD P nt S base w0 K a0 env' a' w' → Q .normal a' w') → wpOps P opsL.toArray Q (List.range' n r.length) a w
  | [], ss, n, env, a, w, hss, hst, _, _, hF, hQ => by
    simp only [toSts, Option.some.injEq] at hss
    subst hss
    simp only [stepsS, Option.some.injEq] at hst
    subst hst
    exact hQ a w hF
  | op :: r, ss, n, env, a, w, hss, hst, hdrop, hk, hF, hQ => by
    simp only [toSts, Option.bind_eq_some_iff, Option.some.injEq] at hss
    obtain ⟨s, hs, ss', hss', rfl⟩ := hss
    simp only [stepsS, Option.bind_eq_some_iff] at hst
    obtain ⟨env1, h1, h2⟩ := hst
    obtain ⟨hat, hdrop'⟩ := drop_cons hdrop
    obtain ⟨hg, hout⟩ := step_sound ho hF.fi hs h1 (fun d hd => ⟨List.mem_range.2 (hk op (List.mem_cons_self ..) d hd).1, (hk op (List.mem_cons_self ..) d hd).1⟩)
    simp only [List.length_cons, List.range'_succ, wpOps, List.getElem?_toArray, hat]
    have hw : Region.wanted op (yielded opsL.toArray a.tmps) = true := by simp [Region.wanted, hg]
    rw [if_pos hw]
    left
    refine Outc.wp ?_
    have hev : Act.eval { a with defers := [] } = a.eval := by funext x; cases x <;> rfl
    rw [hev] at hout
    revert hout
    generalize (execOp a.eval op).run P w = res
    intro hout
    have next : ∀ u w1, FI P nt (List.range nt) S base w0 env1 (Act.put { a with defers := [] } op.dst u) w1 → wpOps P opsL.toArray Q (List.range' (n + 1) r.length) (a.put op.dst u) w1 := fun u w1 h =>
      stepsD_sound ho r ss' (n + 1) env1 _ w1 hss' h2 hdrop' (fun op' h' => hk op' (List.mem_cons_of_mem _ h')) (hF.put (fun d hd => (hk op (List.mem_cons_self ..) d hd).2) h) hQ
    unfold Outc at hout ⊢
    split at hout
    · exact next _ _ hout
    · exact next _ _ hout
    · exact hout.mono fun e w1 ⟨u, he, h⟩ => ⟨u, he, next _ _ h⟩
    · exact hout.elim
theorem execD_sound (ho : SoundO P o) : ∀ (c : Code) (cc : DC), compD P nt K c = some cc → ∀ (env : Env) (ex : Ex) (env' : Env), execD o cc env = some (ex, env') → ∀ (a : Act) (w : World), FD P nt S base w0 K a0 env a w →
    ∀ (Q : Exit → Act → World → Prop), (∀ a' w', FD P nt S base w0 K a0 env' a' w' → Q ex.exit a' w') → c.wp P Q a w
  | .skip, cc, hc, env, ex, env', hx, a, w, hF, Q, hQ => by
    simp only [compD, Option.some.injEq] at hc
    subst hc
    simp only [execD, Option.some.injEq, Prod.mk.injEq] at hx
    obtain ⟨rfl, rfl⟩ := hx
    exact wp_skip (hQ a w hF)
  | .ret, cc, hc, env, ex, env', hx, a, w, hF, Q, hQ => by
    simp only [compD, Option.some.injEq] at hc
    subst hc
    simp only [execD, Option.some.injEq, Prod.mk.injEq] at hx
    obtain ⟨rfl, rfl⟩ := hx
    exact wp_ret (hQ a w hF)
  | .region id ops true, cc, hc, _, _, _, _, _, _, _, _, _ => by simp [compD] at hc
  | .region id ops false, cc, hc, env, ex, env', hx, a, w, hF, Q, hQ => by
    simp only [compD] at hc
    split at hc
    · rename_i hd
      simp only [Option.map_eq_some_iff] at hc
      obtain ⟨ss, hss, rfl⟩ := hc
      simp only [execD, Option.bind_eq_some_iff, Option.some.injEq, Prod.mk.injEq] at hx
      obtain ⟨e, he, rfl, rfl⟩ := hx
      refine wp_region ?_
      have := stepsD_sound (Q := Q) (opsL := ops.toList) ho ops.toList ss 0 env a w hss he (by simp) (fun op hop d hdd => by
        have h := List.all_eq_true.1 hd op hop
        rw [hdd] at h
        simpa using h) hF hQ
      simpa [List.range_eq_range'] using this
    · cases hc
  | .seq x y, cc, hc, env, ex, env', hx, a, w, hF, Q, hQ => by
    simp only [compD, Option.bind_eq_some_iff, Option.map_eq_some_iff] at hc
    obtain ⟨c1, h1, c2, h2, rfl⟩ := hc
    simp only [execD, Option.bind_eq_some_iff] at hx
    obtain ⟨⟨e1, env1⟩, he1, hx⟩ := hx
    refine wp_seq (execD_sound ho x c1 h1 env e1 env1 he1 a w hF _ fun a1 w1 hF1 => ?_)
    cases e1 with
    | n => exact execD_sound ho y c2 h2 env1 ex env' hx a1 w1 hF1 Q hQ
    | e id =>
      simp only [Option.some.injEq, Prod.mk.injEq] at hx
      obtain ⟨rfl, rfl⟩ := hx
      exact hQ a1 w1 hF1
    | r =>
      simp only [Option.some.injEq, Prod.mk.injEq] at hx
      obtain ⟨rfl, rfl⟩ := hx
      exact hQ a1 w1 hF1
  | .cond c x y, cc, hc, env, ex, env', hx, a, w, hF, Q, hQ => by
    simp only [compD, Option.bind_eq_some_iff, Option.map_eq_some_iff] at hc
    obtain ⟨cx, hcx, c1, h1, c2, h2, rfl⟩ := hc
    simp only [execD, Option.bind_eq_some_iff] at hx
    obtain ⟨v, hv, hx⟩ := hx
    cases v <;> first | (cases hx; done) | skip
    rename_i t
    have hev : Act.eval { a with defers := [] } = a.eval := by funext x; cases x <;> rfl
    have hcv := cond_val hF.fi hcx hv
    rw [hev] at hcv
    refine wp_cond hcv ?_
    cases t with
    | true => exact execD_sound ho x c1 h1 env ex env' hx a w hF Q hQ
    | false => exact execD_sound ho y c2 h2 env ex env' hx a w hF Q hQ
  | .block .., cc, hc, _, _, _, _, _, _, _, _, _ => by simp [compD] at hc
  | .loop .., cc, hc, _, _, _, _, _, _, _, _, _ => by simp [compD] at hc
  | .exit .., cc, hc, _, _, _, _, _, _, _, _, _ => by simp [compD] at hc
  | .scope .., cc, hc, _, _, _, _, _, _, _, _, _ => by simp [compD] at hc
  | .rangeFunc .., cc, hc, _, _, _, _, _, _, _, _, _ => by simp [compD] at hc
theorem bodyD_sound (ho : SoundO P o) {f : FuncId} {fn : Func} (hf : P.funcs[f]? = some fn) {fc : FCode} (hc : compile P fn = some fc) {xs : List V} {y : V} (hv : bodyV o fc xs = some y) {vs : List Value} (hS : ∀ b, S b → b < w.heap.size) (hG : GOK S w) (hr : Reps S w vs xs) (u : FrameMode) :
    CallsD P f vs.toArray u w fun e u' w' => u' = u ∧ ∃ v, e = .returned v ∧ Below w.heap.size w w' := by
  unfold compile at hc
  simp only [Option.bind_eq_some_iff] at hc
  obtain ⟨c, hbody, b, hcomp, rs, hres, hc⟩ := hc
  split at hc
  · rename_i hcond
    cases hc
    unfold bodyV at hv
    split at hv
    · rename_i hargs
      simp only [Option.bind_eq_some_iff] at hv
      obtain ⟨⟨ex, env'⟩, hexec, hv⟩ := hv
      have hlen : vs.length = fn.params.size + fn.nfree := hr.1.trans hargs.1
      have hF := FI.start (P := P) (nt := fn.ntmps) (keep := keepOf fn c) hS hG hr hargs.2 (by rw [hargs.1]; exact hcond.1) (fun n hn => mem_union (List.mem_range.2 (by rw [hargs.1] at hn; exact hn))) (by simp [hlen]; exact hcond.1)
      refine callsD_of_wp (R := fun e w' => ∃ v, e = .returned v ∧ Below w.heap.size w w') hf hbody ?_
      refine exec_sound ho hcond.2 c [] (resTmps fn) b hcomp _ ex env' hexec _ w hF _ fun a' w' hF' => ?_
      have fin := fun hv => ret_sound (P := P) hres hF' (y := y) hv
      cases ex with
      | n =>
        obtain ⟨h1, v, h2, v', h3, h4, _⟩ := fin hv
        exact ⟨h1, v, h2, v', h3, h4⟩
      | r =>
        obtain ⟨h1, v, h2, v', h3, h4, _⟩ := fin hv
        exact ⟨h1, v, h2, v', h3, h4⟩
      | e id => cases hv
    · cases hv
  · cases hc
omit [Glob] in
theorem reg_defer {id : Nat} {ops : Array Oper} {o1 o2 : Oper} {f d : Nat} {cs : Array Operand} (h : ops = #[o1, o2]) (g1 : o1.guard = none) (g2 : o2.guard = none) (h1 : o1.op = .makeFunc (.func f) #[] cs) (d1 : o1.dst = some d)
    (h2 : o2.op = .defer { callee := .value (.tmp d), args := #[], argTypes := #[] }) (d2 : o2.dst = none) (hd : d < a.tmps.size) {Q : Exit → Act → World → Prop}
    (hQ : Q .normal { a.put (some d) (.func (.func f) #[] (cs.map a.eval)) with defers := { target := .fn (.func f) (cs.map a.eval), args := #[] } :: a.defers } w) : (Code.region id ops false).wp P Q a w := by
  refine wp_region ?_
  subst h
  have hev : (a.put (some d) (.func (.func f) #[] (cs.map a.eval))).eval (.tmp d) = .func (.func f) #[] (cs.map a.eval) := by
    simp [Act.eval, Act.put, hd]
  have r1 : (execOp a.eval o1).run P w = .ok (.value (.func (.func f) #[] (cs.map a.eval))) w := by simp [execOp, h1, Instr.makeFunc]
  have r2 : (execOp (a.put (some d) (.func (.func f) #[] (cs.map a.eval))).eval o2).run P w = .ok (.defer { target := .fn (.func f) (cs.map a.eval), args := #[] }) w := by simp [execOp, h2, resolve, Deferred.ofValue, hev]
  refine (?_ : wpOps P #[o1, o2] Q [0, 1] a w)
  simp only [wpOps, show (#[o1, o2] : Array Oper)[0]? = some o1 from rfl, show (#[o1, o2] : Array Oper)[1]? = some o2 from rfl]
  rw [if_pos (by simp [Region.wanted, g1])]
  left
  unfold Oper.wp
  rw [r1]
  simp only [Oper.upon, d1]
  rw [if_pos (by simp [Region.wanted, g2])]
  left
  rw [r2]
  simp only [d2]
  exact hQ
end
end Go.VM
