/-
  Regions, step by step. No program is named here.
-/
import Derived.Test.YtonibcnbcnibeaaVm9i
namespace Go.VM
open Go.RowKit

section
variable {P : Program} {nt : Nat} {keep : List Nat} {S : Nat → Prop} {base : Nat} {w0 : World} {env env' : Env} {a : Act} {w : World} {o : Orc}

theorem outc_value {r : Result Next} {K : Value → World → Prop} {u : Value} {w1 : World} (h : r = .ok (.value u) w1) (hk : K u w1) : Outc P r K := by subst h; exact hk
theorem outc_skip {r : Result Next} {K : Value → World → Prop} {w1 : World} (h : r = .ok .skip w1) (hk : K undef w1) : Outc P r K := by subst h; exact hk

theorem opQ_bld {z : List V} {ps : List (Nat × Nat)} (vs : List V) : opQ o (.bld z ps) vs = (bldV z ps vs).map .a := by
  match vs with
  | [] => simp [opQ]
  | [x] => cases x <;> simp [opQ]
  | [x, y] => cases x <;> cases y <;> simp [opQ]
  | x :: y :: _ :: _ => cases x <;> simp [opQ]

theorem ofList2 {α : Type} {as : Array α} {x y : α} (h : as.toList = [x, y]) : as = #[x, y] := by
  apply Array.toList_inj.1; simp [h]

/-- One step does what the evaluator says. -/
theorem step_sound (ho : SoundO P o) (hF : FI P nt keep S base w0 env a w) {oper : Oper} {st : St} (hto : toSt P oper = some st) (hst : stepS o env st = some env') (hkd : ∀ d, oper.dst = some d → d ∈ keep ∧ d < nt) :
    oper.guard = none ∧ Outc P ((execOp a.eval oper).run P w) fun u w1 => FI P nt keep S base w0 env' (a.put oper.dst u) w1 := by
  unfold toSt at hto
  split at hto
  · cases hto
  rename_i hgd
  refine ⟨by simpa using hgd, ?_⟩
  have one : ∀ {d : Nat}, oper.dst = some d → (∃ u w1, (execOp a.eval oper).run P w = .ok (.value u) w1 ∧ FI P nt keep S base w0 env' (a.put (some d) u) w1) → Outc P ((execOp a.eval oper).run P w) fun u w1 => FI P nt keep S base w0 env' (a.put oper.dst u) w1 := by
    intro d hd ⟨u, w1, h1, h2⟩
    exact outc_value h1 (by rw [hd]; exact h2)
  have one' : ∀ {d : Nat}, oper.dst = some d → (∃ u, (execOp a.eval oper).run P w = .ok (.value u) w ∧ FI P nt keep S base w0 env' (a.put (some d) u) w) → Outc P ((execOp a.eval oper).run P w) fun u w1 => FI P nt keep S base w0 env' (a.put oper.dst u) w1 := by
    intro d hd ⟨u, h1, h2⟩
    exact outc_value h1 (by rw [hd]; exact h2)
  split at hto
  · -- move
    rename_i x d hop hd
    obtain ⟨hk, hlt⟩ := hkd d hd
    simp only [Option.bind_eq_some_iff, Option.some.injEq] at hto
    obtain ⟨s, hs, rfl⟩ := hto
    exact one' hd ⟨a.eval x, by simp [execOp, hop], step_mv' hF hk hlt hs hst⟩
  · -- assign
    rename_i x d hop hd
    obtain ⟨hk, hlt⟩ := hkd d hd
    simp only [Option.bind_eq_some_iff, Option.some.injEq] at hto
    obtain ⟨s, hs, rfl⟩ := hto
    exact one' hd ⟨a.eval x, by simp [execOp, hop], step_as hF hk hlt hs hst⟩
  · -- indexAddr
    rename_i t x i d hop hd
    obtain ⟨hk, hlt⟩ := hkd d hd
    split at hto
    · rename_i e hu
      simp only [Option.bind_eq_some_iff] at hto
      obtain ⟨s, hs, j, hj, hto⟩ := hto
      split at hto
      · cases hto
        exact one' hd (step_ix hF hk hlt hop hu ‹_› hs hj hst)
      · cases hto
    · cases hto
  · -- fieldAddr
    rename_i t x i d hop hd
    obtain ⟨hk, hlt⟩ := hkd d hd
    split at hto
    · rename_i fs hu
      simp only [Option.bind_eq_some_iff] at hto
      obtain ⟨f, hf, s, hs, hto⟩ := hto
      split at hto
      · cases hto
        exact one' hd (step_fa hF hk hlt hop hu hf ‹_› hs hst)
      · cases hto
    · cases hto
  · -- store
    rename_i t x v hop hd
    simp only [Option.bind_eq_some_iff] at hto
    obtain ⟨s, hs, sv, hsv, hto⟩ := hto
    split at hto
    · cases hto
    · rename_i hpos
      cases hto
      obtain ⟨w1, h1, h2⟩ := step_sto hF hop hs hsv hst (by omega)
      exact outc_skip h1 (by rw [hd]; exact h2)
  · -- extract
    rename_i n i d hop hd
    obtain ⟨hk, hlt⟩ := hkd d hd
    cases hto
    exact one' hd (step_ext hF hk hlt hop hst)
  · -- box
    rename_i t x d hop hd
    obtain ⟨hk, hlt⟩ := hkd d hd
    simp only [Option.bind_eq_some_iff] at hto
    obtain ⟨s, hs, hto⟩ := hto
    split at hto
    · cases hto
    · cases hto
      exact one hd (step_box hF hk hlt hop hs hst)
  · -- alloc
    rename_i t d hop hd
    obtain ⟨hk, hlt⟩ := hkd d hd
    simp only [Option.bind_eq_some_iff, Option.some.injEq] at hto
    obtain ⟨z, hz, rfl⟩ := hto
    exact one hd (step_alo hF hk hlt hop hz hst)
  · -- makeFunc
    rename_i fn fs cs d hop hd
    obtain ⟨hk, hlt⟩ := hkd d hd
    simp only [Option.bind_eq_some_iff, Option.some.injEq] at hto
    obtain ⟨ss, hs, rfl⟩ := hto
    exact one' hd (step_mkf hF hk hlt hop hs hst)
  · -- buildSlice
    rename_i t n ps d hop hd
    obtain ⟨hk, hlt⟩ := hkd d hd
    split at hto
    · rename_i k hkc
      simp only [Option.bind_eq_some_iff] at hto
      obtain ⟨e, he, hto⟩ := hto
      split at hto
      · simp only [Option.bind_eq_some_iff, Option.some.injEq] at hto
        obtain ⟨ss, hs, rfl⟩ := hto
        exact one hd (step_bsl hF hk hlt hop hkc he ‹_› hs hst)
      · cases hto
    · cases hto
  · -- append
    rename_i args tys d hop hd
    obtain ⟨hk, hlt⟩ := hkd d hd
    split at hto
    · rename_i x y t u hargs htys
      simp only [Option.bind_eq_some_iff] at hto
      obtain ⟨k, hkc, b, hbc, s, hs, z, hz, e, he, zc, hzc, hto⟩ := hto
      split at hto
      · rename_i hc
        cases hto
        obtain ⟨rfl, hc1, hc2, hc3⟩ := hc
        rw [ofList2 hargs, ofList2 htys] at hop
        exact one hd (step_app hF hk hlt hop hkc hbc he hzc ⟨hc1, hc2, hc3⟩ hs hz hst)
      · cases hto
    · cases hto
  · -- the rest
    simp only [Option.bind_eq_some_iff] at hto
    obtain ⟨⟨p, xs⟩, hq, ss, hs, hto⟩ := hto
    rcases qop_inv hq with hp | ⟨f, args, tys, hop, rfl, rfl⟩ | ⟨x, args, tys, hop, rfl, rfl⟩ | ⟨t, n, ps, k, hop, hk, hc, rfl, rfl⟩
    · simp only at hto hs hp
      have plain : ∀ d, oper.dst = some d → st = .q d p ss → Outc P ((execOp a.eval oper).run P w) fun u w1 => FI P nt keep S base w0 env' (a.put oper.dst u) w1 := by
        intro d hd he
        subst he
        obtain ⟨hk, hlt⟩ := hkd d hd
        exact one' hd (step_q hF hk hlt hq hp hs rfl hst)
      cases hd : oper.dst with
      | none => rw [hd] at hto; cases p <;> first | (cases hto; done) | (simp [XOp.plain] at hp; done)
      | some d =>
        rw [hd] at hto
        obtain ⟨hk, hlt⟩ := hkd d hd
        rw [← hd]
        cases p with
        | bld z ps =>
          cases hto
          simp only [stepS, Option.bind_eq_some_iff, Option.some.injEq] at hst
          obtain ⟨vs, hl, r, hb, rfl⟩ := hst
          exact one' hd (step_qf (o := o) hF hk hlt hq hp hs rfl hl (by rw [opQ_bld, hb]; rfl) (by simp))
        | slc k lo hi =>
          cases hto
          simp only [stepS, Option.bind_eq_some_iff, Option.some.injEq] at hst
          obtain ⟨vs, hl, r, hb, rfl⟩ := hst
          refine one' hd (step_qf (o := o) hF hk hlt hq hp hs rfl hl hb fun ys e => ?_)
          obtain ⟨es, bs, p, _, _, _, h⟩ := inv_slc hb
          rw [h] at e; cases e
        | _ => first | (simp [XOp.plain] at hp; done) | (cases hto; done) | (simp only [Option.some.injEq] at hto; exact plain d hd hto.symm)
    · simp only [Option.some.injEq] at hto
      subst hto
      simp only [stepS, Option.bind_eq_some_iff, Option.some.injEq] at hst
      obtain ⟨vs, hl, r, hr, rfl⟩ := hst
      refine step_call ho hF hkd hs hl fun S hrep => ⟨f, args.toList.map a.eval, vs, hr, hrep, ?_⟩
      rw [call_enter ho (ρ := a.eval) (fun _ => rfl) hop hr w]
      congr 2
      apply Array.toList_inj.1; simp
    · simp only [Option.some.injEq] at hto
      subst hto
      simp only [stepS, Option.bind_eq_some_iff, Option.some.injEq] at hst
      obtain ⟨vs, hl, r, hr, rfl⟩ := hst
      refine step_call ho hF hkd hs hl fun S hrep => ?_
      obtain ⟨f, us, zs, hz, hzr, hrun⟩ := callv_enter ho hop hrep hr
      exact ⟨f, us, zs, hz, hzr, hrun w⟩
    · cases hd : oper.dst <;> rw [hd] at hto <;> cases hto

theorem FI.keys_mono (hF : FI P nt keep S base w0 env a w) {keep' : List Nat} (hk : ∀ n, n ∈ keep → n ∈ keep') : FI P nt keep' S base w0 env a w :=
  ⟨hF.srt, hF.size, hF.defers, hF.below, hF.bsz, fun n x hx => ⟨hk n (hF.keys n x hx).1, (hF.keys n x hx).2⟩, hF.ents⟩

/-- Fewer slots. -/
theorem FI.filter (hF : FI P nt keep S base w0 env a w) (f : Nat → Bool) {keep' : List Nat} (hk : ∀ n, n ∈ keep → f n = true → n ∈ keep') :
    FI P nt keep' S base w0 (env.filter fun p => f p.1 && (match p.2.names with | none => true | some m => f m)) a w := by
  obtain ⟨Im, hI1, hI2, hE⟩ := hF.ents
  have hg : ∀ n x, get n (env.filter fun p => f p.1 && (match p.2.names with | none => true | some m => f m)) = some x → get n env = some x ∧ f n = true ∧ ∀ m, x.names = some m → f m = true := by
    intro n x hx
    rw [get_filter hF.srt] at hx
    cases hq : get n env with
    | none => rw [hq] at hx; cases hx
    | some y =>
      rw [hq] at hx
      simp only [Option.bind_some] at hx
      by_cases hc : (f n && (match y.names with | none => true | some m => f m)) = true
      · rw [if_pos hc] at hx
        cases hx
        simp only [Bool.and_eq_true] at hc
        exact ⟨rfl, hc.1, fun m hm => by have := hc.2; rw [hm] at this; exact this⟩
      · rw [if_neg hc] at hx; cases hx
  refine ⟨hF.srt.filter _, hF.size, hF.defers, hF.below, hF.bsz, fun n x hx => ?_, Im, hI1, hI2, hE.sub (fun n x hx => (hg n x hx).1) fun n x m hx hm => ?_⟩
  · obtain ⟨h1, h2, _⟩ := hg n x hx
    exact ⟨hk n (hF.keys n x h1).1 h2, (hF.keys n x h1).2⟩
  · obtain ⟨h1, h2, h3⟩ := hg n x hx
    obtain ⟨y, hy, hyn⟩ := hE.closed n x m h1 hm
    refine ⟨y, ?_, hyn⟩
    rw [get_filter hF.srt, hy]
    simp [hyn, h3 m hm]
theorem FI.dropE (hF : FI P nt keep S base w0 env a w) (ks : List Nat) {keep' : List Nat} (hk : ∀ n, n ∈ keep → n ∉ ks → n ∈ keep') : FI P nt keep' S base w0 (dropE ks env) a w :=
  hF.filter (fun n => !ks.contains n) fun n hn hf => hk n hn (by simpa using hf)
theorem FI.keepE (hF : FI P nt keep S base w0 env a w) (ks : List Nat) : FI P nt keep S base w0 (keepE ks env) a w :=
  hF.filter (fun n => ks.contains n) fun _ hn _ => hn

/-- The steps of a region. -/
theorem stepsS_sound (ho : SoundO P o) {opsL : List Oper} {Q : Exit → Act → World → Prop} {env' : Env} : ∀ (r : List Oper) (ss : List St) (n : Nat) (env : Env) (a : Act) (w : World), toSts P r = some ss → stepsS o ss env = some env' → opsL.drop n = r → (∀ op ∈ r, ∀ d, op.dst = some d → d ∈ keep ∧ d < nt) →
    FI P nt keep S base w0 env a w → (∀ a' w', FI P nt keep S base w0 env' a' w' → Q .normal a' w') → wpOps P opsL.toArray Q (List.range' n r.length) a w
  | [], ss, n, env, a, w, hss, hst, _, _, hF, hQ => by
    simp only [toSts, Option.some.injEq] at hss
    subst hss
    simp only [stepsS, Option.some.injEq] at hst
    subst hst
    exact hQ a w hF
  | op :: r, ss, n, env, a, w, hss, hst, hdrop, hk, hF, hQ => by
    simp only [toSts, Option.bind_eq_some_iff, Option.some.injEq] at hss
    obtain ⟨s, hs, ss', hss', rfl⟩ := hss
    simp only [stepsS, Option.bind_eq_some_iff] at hst
    obtain ⟨env1, h1, h2⟩ := hst
    obtain ⟨hat, hdrop'⟩ := drop_cons hdrop
    obtain ⟨hg, hout⟩ := step_sound ho hF hs h1 (hk op (List.mem_cons_self ..))
    simp only [List.length_cons, List.range'_succ, wpOps, List.getElem?_toArray, hat]
    have hw : Region.wanted op (yielded opsL.toArray a.tmps) = true := by simp [Region.wanted, hg]
    rw [if_pos hw]
    left
    refine Outc.wp ?_
    revert hout
    generalize (execOp a.eval op).run P w = res
    intro hout
    have next : ∀ u w1, FI P nt keep S base w0 env1 (a.put op.dst u) w1 → wpOps P opsL.toArray Q (List.range' (n + 1) r.length) (a.put op.dst u) w1 := fun u w1 h =>
      stepsS_sound ho r ss' (n + 1) env1 _ w1 hss' h2 hdrop' (fun op' h' => hk op' (List.mem_cons_of_mem _ h')) h hQ
    unfold Outc at hout ⊢
    split at hout
    · exact next _ _ hout
    · exact next _ _ hout
    · exact hout.mono fun e w1 ⟨u, he, h⟩ => ⟨u, he, next _ _ h⟩
    · exact hout.elim

/-- A region in mode S. -/
theorem regS_sound (ho : SoundO P o) {id : Nat} {ops : Array Oper} {ss : List St} (hss : toSts P ops.toList = some ss) (hst : stepsS o ss env = some env') (hnt : ops.toList.all (fun o => match o.dst with | some d => decide (d < nt) | none => true) = true)
    (hF : FI P nt keep S base w0 env a w) {Q : Exit → Act → World → Prop} (hQ : ∀ a' w', FI P nt keep S base w0 (dropE ((ops.toList.flatMap fun o => o.dst.toList).filter fun t => !keep.contains t) env') a' w' → Q .normal a' w') :
    (Code.region id ops false).wp P Q a w := by
  refine wp_region ?_
  have hF' := hF.keys_mono (keep' := keep ++ (ops.toList.flatMap fun o => o.dst.toList)) fun n hn => List.mem_append_left _ hn
  have := stepsS_sound (Q := Q) (opsL := ops.toList) ho ops.toList ss 0 env a w hss hst (by simp) (fun op hop d hd => ⟨List.mem_append_right _ (List.mem_flatMap.2 ⟨op, hop, by simp [hd]⟩), by
    have h := List.all_eq_true.1 hnt op hop
    rw [hd] at h; simpa using h⟩) hF' fun a' w' h => hQ a' w' (h.dropE _ fun n hn hd => by
      by_cases hk : n ∈ keep
      · exact hk
      · rcases List.mem_append.1 hn with h | h
        · exact h
        · exact absurd (List.mem_filter.2 ⟨h, by simp [hk]⟩) hd)
  simpa [List.range_eq_range'] using this
end
end Go.VM
