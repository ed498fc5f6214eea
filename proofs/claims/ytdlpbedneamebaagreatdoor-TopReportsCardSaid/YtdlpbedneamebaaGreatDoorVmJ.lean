/-
  Regions, step by step. No program is named here.
-/
import Derived.Test.YtdlpbedneamebaaGreatDoorVmP
import Derived.Test.YtdlpbedneamebaaGreatDoorVmF
set_option linter.unusedSectionVars false
namespace Go.VM
open Go.RowKit
variable [Glob]

section
variable {P : Program} {nt : Nat} {keep : List Nat} {S : Nat → Prop} {base : Nat} {w0 : World} {env env' : Env} {a : Act} {w : World} {o : Orc}

theorem outc_value {r : Result Next} {K : Value → World → Prop} {u : Value} {w1 : World} (h : r = .ok (.value u) w1) (hk : K u w1) : Outc P r K := by subst h; exact hk
theorem outc_skip {r : Result Next} {K : Value → World → Prop} {w1 : World} (h : r = .ok .skip w1) (hk : K undef w1) : Outc P r K := by subst h; exact hk

theorem opQ_bldA {z : List V} {ps : List (Nat × Nat)} (vs : List V) : opQ o (.bld z ps) vs = (bldV z ps vs).map .a := by
  match vs with
  | [] => simp [opQ]
  | [x] => cases x <;> simp [opQ]
  | [x, y] => cases x <;> cases y <;> simp [opQ]
  | x :: y :: _ :: _ => cases x <;> simp [opQ]

theorem ofList2 {α : Type} {as : Array α} {x y : α} (h : as.toList = [x, y]) : as = #[x, y] := by
  apply Array.toList_inj.1; simp [h]

theorem step_sound (ho : SoundO P o) (hF : FI P nt keep S base w0 env a w) {oper : Oper} {st : St} (hto : toSt P oper = some st) (hst : stepS o env st = some env') (hkd : ∀ d, oper.dst = some d → d ∈ keep ∧ d < nt) :
    oper.guard = none ∧ Outc P ((execOp a.eval oper).run P w) fun u w1 => FI P nt keep S base w0 env' (a.put oper.dst u) w1 := by
  unfold toSt at hto
  split at hto
  · cases hto
  rename_i hgd
  refine ⟨by simpa using hgd, ?_⟩
  have one : ∀ {d : Nat}, oper.dst = some d → (∃ u w1, (execOp a.eval oper).run P w = .ok (.value u) w1 ∧ FI P nt keep S base w0 env' (a.put (some d) u) w1) → Outc P ((execOp a.eval oper).run P w) fun u w1 => FI P nt keep S base w0 env' (a.put oper.dst u) w1 := by
    intro d hd ⟨u, w1, h1, h2⟩
    exact outc_value h1 (by rw [hd]; exact h2)
  have one' : ∀ {d : Nat}, oper.dst = some d → (∃ u, (execOp a.eval oper).run P w = .ok (.value u) w ∧ FI P nt keep S base w0 env' (a.put (some d) u) w) → Outc P ((execOp a.eval oper).run P w) fun u w1 => FI P nt keep S base w0 env' (a.put oper.dst u) w1 := by
    intro d hd ⟨u, h1, h2⟩
    exact outc_value h1 (by rw [hd]; exact h2)
  split at hto
  · -- move
    rename_i x d hop hd
    obtain ⟨hk, hlt⟩ := hkd d hd
    simp only [Option.bind_eq_some_iff, Option.some.injEq] at hto
    obtain ⟨s, hs, rfl⟩ := hto
    exact one' hd ⟨a.eval x, by simp [execOp, hop], step_mv' hF hk hlt hs hst⟩
  · -- assign
    rename_i x d hop hd
    obtain ⟨hk, hlt⟩ := hkd d hd
    simp only [Option.bind_eq_some_iff, Option.some.injEq] at hto
    obtain ⟨s, hs, rfl⟩ := hto
    exact one' hd ⟨a.eval x, by simp [execOp, hop], step_as hF hk hlt hs hst⟩
  · -- indexAddr
    rename_i t x i d hop hd
    obtain ⟨hk, hlt⟩ := hkd d hd
    split at hto
    · rename_i e hu
      simp only [Option.bind_eq_some_iff] at hto
      obtain ⟨s, hs, j, hj, hto⟩ := hto
      split at hto
      · cases hto
        exact one' hd (step_ix hF hk hlt hop hu ‹_› hs hj hst)
      · cases hto
    · cases hto
  · -- fieldAddr
    rename_i t x i d hop hd
    obtain ⟨hk, hlt⟩ := hkd d hd
    split at hto
    · rename_i fs hu
      simp only [Option.bind_eq_some_iff] at hto
      obtain ⟨f, hf, s, hs, hto⟩ := hto
      split at hto
      · cases hto
        exact one' hd (step_fa hF hk hlt hop hu hf ‹_› hs hst)
      · cases hto
    · cases hto
  · -- store
    rename_i t x v hop hd
    simp only [Option.bind_eq_some_iff] at hto
    obtain ⟨s, hs, sv, hsv, hto⟩ := hto
    split at hto
    · cases hto
    · rename_i hpos
      cases hto
      obtain ⟨w1, h1, h2⟩ := step_sto hF hop hs hsv hst (by omega)
      exact outc_skip h1 (by rw [hd]; exact h2)
  · -- extract
    rename_i n i d hop hd
    obtain ⟨hk, hlt⟩ := hkd d hd
    cases hto
    exact one' hd (step_ext hF hk hlt hop hst)
  · -- makeMap
    rename_i t d hop hd
    obtain ⟨hk, hlt⟩ := hkd d hd
    simp only [Option.bind_eq_some_iff, Option.some.injEq] at hto
    obtain ⟨_, _, rfl⟩ := hto
    exact one hd (step_mkm hF hk hlt hop hst)
  · -- lookup
    rename_i t x k d hop hd
    obtain ⟨hk, hlt⟩ := hkd d hd
    simp only [Option.bind_eq_some_iff, Option.some.injEq] at hto
    obtain ⟨⟨kt, e⟩, ht, z, hz, s, hs, j, hj, rfl⟩ := hto
    exact one' hd (step_mget hF hk hlt ht hz hs hj hop hst)
  · -- mapUpdate
    rename_i t x k v hop hd
    simp only [Option.bind_eq_some_iff, Option.some.injEq] at hto
    obtain ⟨⟨kt, e⟩, ht, s, hs, j, hj, l, hl, rfl⟩ := hto
    obtain ⟨w1, h1, h2⟩ := step_mset hF ht hs hj hl hop hst
    exact outc_skip h1 (by rw [hd]; exact h2)
  · -- makeSlice
    rename_i t x y d hop hd
    obtain ⟨hk, hlt⟩ := hkd d hd
    simp only [Option.bind_eq_some_iff] at hto
    obtain ⟨k, hkc, b, hbc, e, he, z, hz, hto⟩ := hto
    split at hto
    · rename_i hc
      cases hto
      obtain ⟨rfl, hc⟩ := hc
      exact one hd (step_mks hF hk hlt hop hkc hbc he hz hc hst)
    · cases hto
  · -- convert
    rename_i t u x d hop hd
    obtain ⟨hk, hlt⟩ := hkd d hd
    split at hto
    · rename_i e ht hu
      split at hto
      · rename_i he
        simp only [Option.bind_eq_some_iff] at hto
        obtain ⟨s, hs, hto⟩ := hto
        split at hto
        · cases hto
          exact one hd (step_s2b hF hk hlt hop ht hu he hs hst)
        · cases hto
      · cases hto
    · rename_i k1 k2 ht hu
      simp only [Option.bind_eq_some_iff, Option.some.injEq] at hto
      obtain ⟨s, hs, rfl⟩ := hto
      have hq : qop P (.convert t u x) = some (.cnv k2, [x]) := by simp only [qop, ht, hu]
      exact one' hd (step_q (o := o) hF hk hlt hq rfl (by simp only [srcs, hs, Option.bind_some]) hop hst)
    · rename_i e ht hu
      split at hto
      · rename_i he
        simp only [Option.bind_eq_some_iff, Option.some.injEq] at hto
        obtain ⟨s, hs, rfl⟩ := hto
        have hq : qop P (.convert t u x) = some (.b2s, [x]) := by simp only [qop, ht, hu, he]
        exact one' hd (step_q (o := o) hF hk hlt hq rfl (by simp only [srcs, hs, Option.bind_some]) hop hst)
      · cases hto
    · cases hto
  · -- box
    rename_i t x d hop hd
    obtain ⟨hk, hlt⟩ := hkd d hd
    simp only [Option.bind_eq_some_iff] at hto
    obtain ⟨s, hs, hto⟩ := hto
    split at hto
    · cases hto
    · cases hto
      exact one hd (step_box hF hk hlt hop hs hst)
  · -- alloc
    rename_i t d hop hd
    obtain ⟨hk, hlt⟩ := hkd d hd
    simp only [Option.bind_eq_some_iff, Option.some.injEq] at hto
    obtain ⟨z, hz, rfl⟩ := hto
    exact one hd (step_alo hF hk hlt hop hz hst)
  · -- makeFunc
    rename_i fn fs cs d hop hd
    obtain ⟨hk, hlt⟩ := hkd d hd
    simp only [Option.bind_eq_some_iff, Option.some.injEq] at hto
    obtain ⟨ss, hs, rfl⟩ := hto
    exact one' hd (step_mkf hF hk hlt hop hs hst)
  · -- buildSlice
    rename_i t n ps d hop hd
    obtain ⟨hk, hlt⟩ := hkd d hd
    split at hto
    · rename_i k hkc
      simp only [Option.bind_eq_some_iff] at hto
      obtain ⟨e, he, hto⟩ := hto
      split at hto
      · simp only [Option.bind_eq_some_iff, Option.some.injEq] at hto
        obtain ⟨ss, hs, rfl⟩ := hto
        exact one hd (step_bsl hF hk hlt hop hkc he ‹_› hs hst)
      · cases hto
    · cases hto
  · -- append
    rename_i args tys d hop hd
    obtain ⟨hk, hlt⟩ := hkd d hd
    split at hto
    · rename_i x y t u hargs htys
      simp only [Option.bind_eq_some_iff] at hto
      obtain ⟨k, hkc, b, hbc, s, hs, z, hz, e, he, zc, hzc, hto⟩ := hto
      split at hto
      · rename_i hc
        cases hto
        obtain ⟨rfl, hc1, hc2, hc3⟩ := hc
        rw [ofList2 hargs, ofList2 htys] at hop
        exact one hd (step_app hF hk hlt hop hkc hbc he hzc ⟨hc1, hc2, hc3⟩ hs hz hst)
      · cases hto
    · cases hto
  · -- copy
    rename_i args tys hop
    split at hto
    · rename_i x y t u hargs htys
      split at hto
      · rename_i e hu
        simp only [Option.bind_eq_some_iff] at hto
        obtain ⟨s, hs, z, hz, hto⟩ := hto
        split at hto
        · rename_i hi
          cases hto
          rw [ofList2 hargs, ofList2 htys] at hop
          cases s with
          | c v => simp [stepS] at hst
          | t n =>
            obtain ⟨v, w1, hr, hf⟩ := step_cpy hF hkd hop hu hi rfl hs hz hst
            exact outc_value hr hf
        · cases hto
      · cases hto
    · cases hto
  · -- the rest
    simp only [Option.bind_eq_some_iff] at hto
    obtain ⟨⟨p, xs⟩, hq, ss, hs, hto⟩ := hto
    rcases qop_inv hq with hp | ⟨f, args, tys, hop, rfl, rfl⟩ | ⟨x, args, tys, hop, rfl, rfl⟩ | ⟨t, n, ps, k, hop, hk, hc, rfl, rfl⟩
    · simp only at hto hs hp
      have plain : ∀ d, oper.dst = some d → st = .q d p ss → Outc P ((execOp a.eval oper).run P w) fun u w1 => FI P nt keep S base w0 env' (a.put oper.dst u) w1 := by
        intro d hd he
        subst he
        obtain ⟨hk, hlt⟩ := hkd d hd
        exact one' hd (step_q hF hk hlt hq hp hs rfl hst)
      cases hd : oper.dst with
      | none => rw [hd] at hto; cases p <;> first | (cases hto; done) | (simp [XOp.plain] at hp; done)
      | some d =>
        rw [hd] at hto
        obtain ⟨hk, hlt⟩ := hkd d hd
        rw [← hd]
        cases p with
        | bld z ps =>
          cases hto
          simp only [stepS, Option.bind_eq_some_iff, Option.some.injEq] at hst
          obtain ⟨vs, hl, r, hb, rfl⟩ := hst
          exact one' hd (step_qf (o := o) hF hk hlt hq hp hs rfl hl (by rw [opQ_bldA, hb]; rfl) (by simp))
        | slc k lo hi =>
          cases hto
          simp only [stepS, Option.bind_eq_some_iff, Option.some.injEq] at hst
          obtain ⟨vs, hl, r, hb, rfl⟩ := hst
          refine one' hd (step_qf (o := o) hF hk hlt hq hp hs rfl hl hb fun ys e => ?_)
          obtain ⟨es, bs, p, _, _, _, h⟩ := inv_slc hb
          rw [h] at e; cases e
        | _ => first | (simp [XOp.plain] at hp; done) | (cases hto; done) | (simp only [Option.some.injEq] at hto; exact plain d hd hto.symm)
    · simp only at hto hs
      by_cases hmu : (Glob.muts.lookup f).isSome = true
      · rw [if_pos hmu] at hto
        obtain ⟨mu, hmu⟩ := Option.isSome_iff_exists.1 hmu
        have hmo : mutOf f = mu := by simp [mutOf, hmu]
        have hen := fun w' => callm_enter (ρ := a.eval) (fun _ => rfl) hop ((ho.1 f mu hmu).1) w'
        rw [hmo] at hto
        simp only [Option.map_eq_some_iff] at hto
        obtain ⟨p, hp, rfl⟩ := hto
        obtain ⟨x0, xr, hal, hs1, hss1⟩ := srcs_pick hp hs
        refine step_callm ho hF hkd hmu hs1 hss1 ?_ hst
        rw [hen w]
        congr 2
        apply Array.toList_inj.1
        rw [Array.toList_map, hal, insAt_map]
      rw [if_neg hmu] at hto
      simp only [Option.some.injEq] at hto
      subst hto
      simp only [stepS, Option.bind_eq_some_iff, Option.some.injEq] at hst
      obtain ⟨vs, hl, r, hr, rfl⟩ := hst
      refine step_call ho hF hkd hs hl fun S hrep => ⟨f, args.toList.map a.eval, vs, hr, hrep, ?_⟩
      rw [call_enter ho (ρ := a.eval) (fun _ => rfl) hop hr w]
      congr 2
      apply Array.toList_inj.1; simp
    · simp only [Option.some.injEq] at hto
      subst hto
      simp only [stepS, Option.bind_eq_some_iff, Option.some.injEq] at hst
      obtain ⟨vs, hl, r, hr, rfl⟩ := hst
      refine step_call ho hF hkd hs hl fun S hrep => ?_
      obtain ⟨f, us, zs, hz, hzr, hrun⟩ := callv_enter ho hop hrep hr
      exact ⟨f, us, zs, hz, hzr, hrun w⟩
    · cases hd : oper.dst <;> rw [hd] at hto <;> cases hto

theorem FI.keys_mono (hF : FI P nt keep S base w0 env a w) {keep' : List Nat} (hk : ∀ n, n ∈ keep → n ∈ keep') : FI P nt keep' S base w0 env a w :=
  ⟨hF.srt, hF.size, hF.defers, hF.below, hF.kept, hF.bsz, fun n x hx => ⟨hk n (hF.keys n x hx).1, (hF.keys n x hx).2⟩, hF.ents⟩

theorem FI.filter (hF : FI P nt keep S base w0 env a w) (f : Nat → Bool) {keep' : List Nat} (hk : ∀ n, n ∈ keep → f n = true → n ∈ keep') :
    FI P nt keep' S base w0 (env.filter fun p => f p.1 && (match p.2.names with | none => true | some m => f m)) a w := by
  obtain ⟨Im, hI1, hI2, hE⟩ := hF.ents
  have hg : ∀ n x, get n (env.filter fun p => f p.1 && (match p.2.names with | none => true | some m => f m)) = some x → get n env = some x ∧ f n = true ∧ ∀ m, x.names = some m → f m = true := by
    intro n x hx
    rw [get_filter hF.srt] at hx
    cases hq : get n env with
    | none => rw [hq] at hx; cases hx
    | some y =>
      rw [hq] at hx
      simp only [Option.bind_some] at hx
      by_cases hc : (f n && (match y.names with | none => true | some m => f m)) = true
      · rw [if_pos hc] at hx
        cases hx
        simp only [Bool.and_eq_true] at hc
        exact ⟨rfl, hc.1, fun m hm => by have := hc.2; rw [hm] at this; exact this⟩
      · rw [if_neg hc] at hx; cases hx
  refine ⟨hF.srt.filter _, hF.size, hF.defers, hF.below, hF.kept, hF.bsz, fun n x hx => ?_, Im, hI1, hI2, hE.sub (fun n x hx => (hg n x hx).1) fun n x m hx hm => ?_⟩
  · obtain ⟨h1, h2, _⟩ := hg n x hx
    exact ⟨hk n (hF.keys n x h1).1 h2, (hF.keys n x h1).2⟩
  · obtain ⟨h1, h2, h3⟩ := hg n x hx
    obtain ⟨y, hy, hyn⟩ := hE.closed n x m h1 hm
    refine ⟨y, ?_, hyn⟩
    rw [get_filter hF.srt, hy]
    simp [hyn, h3 m hm]
theorem FI.dropE (hF : FI P nt keep S base w0 env a w) (ks : List Nat) {keep' : List Nat} (hk : ∀ n, n ∈ keep → n ∉ ks → n ∈ keep') : FI P nt keep' S base w0 (dropE ks env) a w :=
  hF.filter (fun n => !ks.contains n) fun n hn hf => hk n hn (by simpa using hf)
theorem FI.keepE (hF : FI P nt keep S base w0 env a w) (ks : List Nat) : FI P nt keep S base w0 (keepE ks env) a w :=
  hF.filter (fun n => ks.contains n) fun _ hn _ => hn

theorem stepsS_sound (ho : SoundO P o) {opsL : List Oper} {Q : Exit → Act → World → Prop} {env' : Env} : ∀ (r : List Oper) (ss : List St) (n : Nat) (env : Env) (a : Act) (w : World), toSts P r = some ss → stepsS o ss env = some env' → opsL.drop n = r → (∀ op ∈ r, ∀ d, op.dst = some d → d ∈ keep ∧ d < nt) →
    FI P nt keep S base w0 env a w → (∀ a' w', FI P nt keep S base w0 env' a' w' → Q .normal a' w') → wpOps P opsL.toArray Q (List.range' n r.length) a w
  | [], ss, n, env, a, w, hss, hst, _, _, hF, hQ => by
    simp only [toSts, Option.some.injEq] at hss
    subst hss
    simp only [stepsS, Option.some.injEq] at hst
    subst hst
    exact hQ a w hF
  | op :: r, ss, n, env, a, w, hss, hst, hdrop, hk, hF, hQ => by
    simp only [toSts, Option.bind_eq_some_iff, Option.some.injEq] at hss
    obtain ⟨s, hs, ss', hss', rfl⟩ := hss
    simp only [stepsS, Option.bind_eq_some_iff] at hst
    obtain ⟨env1, h1, h2⟩ := hst
    obtain ⟨hat, hdrop'⟩ := drop_cons hdrop
    obtain ⟨hg, hout⟩ := step_sound ho hF hs h1 (hk op (List.mem_cons_self ..))
    simp only [List.length_cons, List.range'_succ, wpOps, List.getElem?_toArray, hat]
    have hw : Region.wanted op (yielded opsL.toArray a.tmps) = true := by simp [Region.wanted, hg]
    rw [if_pos hw]
    left
    refine Outc.wp ?_
    revert hout
    generalize (execOp a.eval op).run P w = res
    intro hout
    have next : ∀ u w1, FI P nt keep S base w0 env1 (a.put op.dst u) w1 → wpOps P opsL.toArray Q (List.range' (n + 1) r.length) (a.put op.dst u) w1 := fun u w1 h =>
      stepsS_sound ho r ss' (n + 1) env1 _ w1 hss' h2 hdrop' (fun op' h' => hk op' (List.mem_cons_of_mem _ h')) h hQ
    unfold Outc at hout ⊢
    split at hout
    · exact next _ _ hout
    · exact next _ _ hout
    · exact hout.mono fun e w1 ⟨u, he, h⟩ => ⟨u, he, next _ _ h⟩
    · exact hout.elim

theorem FI.putO_ud (hF : FI P nt keep S base w0 env a w) {d : Option Nat} (hk : ∀ n, d = some n → n ∈ keep ∧ n < nt) {u : Value} : FI P nt keep S base w0 (putO d .ud env) (a.put d u) w := by
  cases d with
  | none => exact hF
  | some n => exact hF.put_ud (hk n rfl).1 (hk n rfl).2
theorem look_bool (hF : FI P nt keep S base w0 env a w) {c : Nat} {u : Bool} (h : look env c = some (.b u)) : a.tmps[c]? = some (.bool u) := by
  obtain ⟨Im, _, hI2, hE⟩ := hF.ents
  obtain ⟨v, hv, hr⟩ := look_sound hE (fun b h => (hI2 b h).2) h
  cases hr
  exact hv
theorem wpOps_at {opsL : List Oper} {op : Oper} {i : Nat} {r : List Nat} {Q : Exit → Act → World → Prop} (hat : opsL[i]? = some op) (hw : Region.wanted op (yielded opsL.toArray a.tmps) = true) {K : Value → World → Prop}
    (hout : Outc P ((execOp a.eval op).run P w) K) (next : ∀ u w1, K u w1 → wpOps P opsL.toArray Q r (a.put op.dst u) w1) : wpOps P opsL.toArray Q (i :: r) a w := by
  simp only [wpOps, List.getElem?_toArray, hat]
  rw [if_pos hw]
  left
  refine Outc.wp ?_
  revert hout
  generalize (execOp a.eval op).run P w = res
  intro hout
  unfold Outc at hout ⊢
  split at hout
  · exact next _ _ hout
  · exact next _ _ hout
  · exact hout.mono fun e w1 ⟨u, he, h⟩ => ⟨u, he, next _ _ h⟩
  · exact hout.elim
theorem stepsG_sound (ho : SoundO P o) {opsL : List Oper} {Q : Exit → Act → World → Prop} {env' : Env} : ∀ (r : List Oper) (ss : List GSt) (n : Nat) (env : Env) (a : Act) (w : World), toGs P opsL r = some ss → stepsG o ss env = some env' → opsL.drop n = r → (∀ op ∈ r, ∀ d, op.dst = some d → d ∈ keep ∧ d < nt) →
    FI P nt keep S base w0 env a w → (∀ a' w', FI P nt keep S base w0 env' a' w' → Q .normal a' w') → wpOps P opsL.toArray Q (List.range' n r.length) a w
  | [], ss, n, env, a, w, hss, hst, _, _, hF, hQ => by
    simp only [toGs, Option.some.injEq] at hss
    subst hss
    simp only [stepsG, Option.some.injEq] at hst
    subst hst
    exact hQ a w hF
  | op :: r, ss, n, env, a, w, hss, hst, hdrop, hk, hF, hQ => by
    simp only [toGs, Option.bind_eq_some_iff, Option.some.injEq] at hss
    obtain ⟨s, hs, ss', hss', rfl⟩ := hss
    simp only [stepsG, Option.bind_eq_some_iff] at hst
    obtain ⟨env1, h1, h2⟩ := hst
    obtain ⟨hat, hdrop'⟩ := drop_cons hdrop
    have hkd := hk op (List.mem_cons_self ..)
    have next : ∀ u w1, FI P nt keep S base w0 env1 (a.put op.dst u) w1 → wpOps P opsL.toArray Q (List.range' (n + 1) r.length) (a.put op.dst u) w1 := fun u w1 h =>
      stepsG_sound ho r ss' (n + 1) env1 _ w1 hss' h2 hdrop' (fun op' h' => hk op' (List.mem_cons_of_mem _ h')) h hQ
    simp only [List.length_cons, List.range'_succ]
    unfold toG at hs
    split at hs
    · rename_i g hgd
      simp only [Option.bind_eq_some_iff, Option.map_eq_some_iff] at hs
      obtain ⟨p, hp, st, hst', rfl⟩ := hs
      unfold guardT at hp
      simp only [Option.map_eq_some_iff, Option.bind_eq_some_iff] at hp
      obtain ⟨d, ⟨og, hog, hd⟩, rfl⟩ := hp
      simp only [stepG, Option.bind_eq_some_iff] at h1
      obtain ⟨v, hv, h1⟩ := h1
      cases v <;> first | (cases h1; done) | skip
      rename_i u
      have hu := look_bool hF hv
      have hy : yielded opsL.toArray a.tmps g.1 = some u := by
        simp [yielded, hog, hd, hu]
      simp only at h1
      by_cases hut : u = g.2
      · rw [if_pos hut] at h1
        have hw : Region.wanted op (yielded opsL.toArray a.tmps) = true := by
          unfold Region.wanted
          rw [hgd]
          simp [hy, hut]
        exact wpOps_at hat hw (step_sound (oper := { op with guard := none }) ho hF hst' h1 hkd).2 next
      · rw [if_neg hut] at h1
        cases h1
        have hw : ¬ Region.wanted op (yielded opsL.toArray a.tmps) = true := by
          unfold Region.wanted
          rw [hgd]
          simp [hy, hut]
        simp only [wpOps, List.getElem?_toArray, hat]
        rw [if_neg hw]
        exact next _ _ (hF.putO_ud hkd)
    · rename_i hgd
      have hw : Region.wanted op (yielded opsL.toArray a.tmps) = true := by simp [Region.wanted, hgd]
      split at hs
      · rename_i c x y d hop hd
        simp only [Option.bind_eq_some_iff, Option.some.injEq] at hs
        obtain ⟨sx, hsx, sy, hsy, rfl⟩ := hs
        simp only [stepG, Option.bind_eq_some_iff] at h1
        obtain ⟨v, hv, h1⟩ := h1
        cases v <;> first | (cases h1; done) | skip
        rename_i u
        simp only [Option.bind_eq_some_iff] at h1
        obtain ⟨z, hz, h1⟩ := h1
        split at h1
        · rename_i hfl
          cases h1
          have hu := look_bool hF hv
          have hz' : Rep (All w) w (if u = true then a.eval x else a.eval y) z := by
            cases u with
            | true => exact src_val hF hsx hz
            | false => exact src_val hF hsy hz
          obtain ⟨hkk, hdd⟩ := hkd d hd
          refine wpOps_at (K := fun u w1 => FI P nt keep S base w0 (put' d z env) (a.put op.dst u) w1) hat hw (outc_value (u := if u = true then a.eval x else a.eval y) (w1 := w) ?_ ?_) next
          · have : a.eval (.tmp c) = .bool u := eval_tmp hu
            simp [execOp, hop, this, asBool]
          · rw [hd]
            exact hF.put_flat hkk hdd (Below.refl _ _) hz' hfl
        · cases h1
      · simp only [Option.map_eq_some_iff] at hs
        obtain ⟨st, hst', rfl⟩ := hs
        exact wpOps_at hat hw (step_sound ho hF hst' h1 hkd).2 next

theorem regS_sound (ho : SoundO P o) {id : Nat} {ops : Array Oper} {ss : List St} (hss : toSts P ops.toList = some ss) (hst : stepsS o ss env = some env') (hnt : ops.toList.all (fun o => match o.dst with | some d => decide (d < nt) | none => true) = true)
    (hF : FI P nt keep S base w0 env a w) {Q : Exit → Act → World → Prop} (hQ : ∀ a' w', FI P nt keep S base w0 (dropE ((ops.toList.flatMap fun o => o.dst.toList).filter fun t => !keep.contains t) env') a' w' → Q .normal a' w') :
    (Code.region id ops false).wp P Q a w := by
  refine wp_region ?_
  have hF' := hF.keys_mono (keep' := keep ++ (ops.toList.flatMap fun o => o.dst.toList)) fun n hn => List.mem_append_left _ hn
  have := stepsS_sound (Q := Q) (opsL := ops.toList) ho ops.toList ss 0 env a w hss hst (by simp) (fun op hop d hd => ⟨List.mem_append_right _ (List.mem_flatMap.2 ⟨op, hop, by simp [hd]⟩), by
    have h := List.all_eq_true.1 hnt op hop
    rw [hd] at h; simpa using h⟩) hF' fun a' w' h => hQ a' w' (h.dropE _ fun n hn hd => by
      by_cases hk : n ∈ keep
      · exact hk
      · rcases List.mem_append.1 hn with h | h
        · exact h
        · exact absurd (List.mem_filter.2 ⟨h, by simp [hk]⟩) hd)
  simpa [List.range_eq_range'] using this
theorem regG_sound (ho : SoundO P o) {id : Nat} {ops : Array Oper} {ss : List GSt} (hss : toGs P ops.toList ops.toList = some ss) (hst : stepsG o ss env = some env') (hnt : ops.toList.all (fun o => match o.dst with | some d => decide (d < nt) | none => true) = true)
    (hF : FI P nt keep S base w0 env a w) {Q : Exit → Act → World → Prop} (hQ : ∀ a' w', FI P nt keep S base w0 (dropE ((ops.toList.flatMap fun o => o.dst.toList).filter fun t => !keep.contains t) env') a' w' → Q .normal a' w') :
    (Code.region id ops false).wp P Q a w := by
  refine wp_region ?_
  have hF' := hF.keys_mono (keep' := keep ++ (ops.toList.flatMap fun o => o.dst.toList)) fun n hn => List.mem_append_left _ hn
  have := stepsG_sound (Q := Q) (opsL := ops.toList) ho ops.toList ss 0 env a w hss hst (by simp) (fun op hop d hd => ⟨List.mem_append_right _ (List.mem_flatMap.2 ⟨op, hop, by simp [hd]⟩), by
    have h := List.all_eq_true.1 hnt op hop
    rw [hd] at h; simpa using h⟩) hF' fun a' w' h => hQ a' w' (h.dropE _ fun n hn hd => by
      by_cases hk : n ∈ keep
      · exact hk
      · rcases List.mem_append.1 hn with h | h
        · exact h
        · exact absurd (List.mem_filter.2 ⟨h, by simp [hk]⟩) hd)
  simpa [List.range_eq_range'] using this
end
end Go.VM
/-
  Steps that touch nothing of each other may be carried out in any order. No program is named here.
-/
namespace Go.VM
open Go.RowKit
variable [Glob]

def nm (env : Env) (n : Nat) : Option Nat := (get n env).bind V.names
def NC (env : Env) (W : List Nat) : Prop := ∀ n m, m ∈ W → nm env n = some m → n ∈ W
def Agree (env env2 : Env) (l : List Nat) : Prop := ∀ n ∈ l, get n env2 = get n env

section
variable {o : Orc} {env env2 : Env}

theorem put'_other (hs : Srt env) {d : Nat} {x : V} (h : ∀ n, nm env n = some d → n = d) {n : Nat} (hn : n ≠ d) : get n (put' d x env) = get n env := by
  rw [get_put' hs, if_neg hn]
  cases hd : get d env with
  | none => rfl
  | some y =>
    simp only
    cases hq : get n env with
    | none => rfl
    | some z =>
      simp only [Option.bind_some]
      split
      · rename_i hz
        exact absurd (h n (by simp [nm, hq, hz])) hn
      · rfl
theorem slotN_self (n : Nat) : n ∈ slotN env n := by unfold slotN; split <;> simp
theorem slotN_nm {n m : Nat} (h : nm env n = some m) : m ∈ slotN env n := by unfold slotN; unfold nm at h; rw [h]; simp
theorem look_agree {n : Nat} (h : Agree env env2 (slotN env n)) : look env2 n = look env n := by
  have h1 := h n (slotN_self n)
  have h2 : ∀ m, nm env n = some m → get m env2 = get m env := fun m hm => h m (slotN_nm hm)
  unfold look
  rw [h1]
  cases hx : get n env with
  | none => rfl
  | some x =>
    unfold nm at h2
    rw [hx] at h2
    cases x <;> first
      | rfl
      | (simp only [h2 _ rfl]; done)
theorem lookS_agree {s : Src} (h : Agree env env2 (srcN env s)) : lookS env2 s = lookS env s := by
  cases s with
  | c v => rfl
  | t n => exact look_agree h
theorem Agree.left {l r : List Nat} (h : Agree env env2 (l ++ r)) : Agree env env2 l := fun n hn => h n (List.mem_append_left _ hn)
theorem Agree.right {l r : List Nat} (h : Agree env env2 (l ++ r)) : Agree env env2 r := fun n hn => h n (List.mem_append_right _ hn)
theorem lookSs_agree : ∀ {xs : List Src}, Agree env env2 (srcsN env xs) → lookSs env2 xs = lookSs env xs
  | [], _ => rfl
  | s :: r, h => by
    simp only [srcsN] at h
    simp only [lookSs, lookS_agree h.left, lookSs_agree h.right]
theorem owner_agree {s : Src} (h : Agree env env2 (srcN env s)) : owner env2 s = owner env s := by
  cases s with
  | c v => rfl
  | t n =>
    have h1 := h n (slotN_self n)
    simp only [owner, h1]
theorem noOwn_agree : ∀ {xs : List Src}, Agree env env2 (srcsN env xs) → noOwn env2 xs = noOwn env xs
  | [], _ => rfl
  | s :: r, h => by
    simp only [srcsN] at h
    simp only [noOwn, owner_agree h.left, noOwn_agree h.right]
theorem freeze_noOwn : ∀ {xs : List Src}, noOwn env xs = true → freeze env xs = env
  | [], _ => rfl
  | s :: r, h => by
    simp only [noOwn, Bool.and_eq_true, Option.isNone_iff_eq_none] at h
    unfold freeze
    rw [List.foldl_cons, h.1]
    exact freeze_noOwn h.2

def Loc (o : Orc) (s : St) (e : Env) (W : List Nat) (env2 : Env) : Prop := ∃ e2, stepS o env2 s = some e2 ∧ Srt e2 ∧ (∀ n ∈ W, get n e2 = get n e) ∧ ∀ n, n ∉ W → get n e2 = get n env2

theorem loc_put (hs : Srt env) (hs2 : Srt env2) {d : Nat} {v : V} (hc2 : NC env2 [d]) {s : St} {e : Env} (he : e = put' d v env) (h2 : stepS o env2 s = some (put' d v env2)) : Loc o s e [d] env2 := by
  subst he
  refine ⟨_, h2, hs2.put' _ _, fun n hn => ?_, fun n hn => ?_⟩
  · simp only [List.mem_singleton] at hn
    subst hn
    rw [get_put' hs, get_put' hs2, if_pos rfl, if_pos rfl]
  · simp only [List.mem_singleton] at hn
    exact put'_other hs2 (fun k hk => by simpa using hc2 k d (by simp) hk) hn
theorem loc_putO (hs : Srt env) (hs2 : Srt env2) {d : Option Nat} {v : V} (hc2 : NC env2 d.toList) {s : St} {e : Env} (he : e = putO d v env) (h2 : stepS o env2 s = some (putO d v env2)) : Loc o s e d.toList env2 := by
  cases d with
  | none =>
    subst he
    exact ⟨_, h2, hs2, fun n hn => by simp at hn, fun n _ => rfl⟩
  | some d => exact loc_put hs hs2 hc2 he h2

theorem loc_mv (hs : Srt env) (hs2 : Srt env2) {d n : Nat} {x : V} (hx : get n env = some x) (hnt : ∀ ys, x ≠ .t ys) {e : Env} (hst : stepS o env (.mv d (.t n)) = some e) {f : List Nat × List Nat} (hf : foot o env (.mv d (.t n)) = some f) (ha : Agree env env2 f.1) (hc2 : NC env2 f.2) : Loc o (.mv d (.t n)) e f.2 env2 := by
  simp only [foot] at hf
  have hx2 : ∀ R, f.1 = R → n ∈ R → get n env2 = get n env := fun R hR hn => ha n (hR ▸ hn)
  simp only [stepS] at hst
  · rw [hx] at hst hf
    simp only [Option.bind_some] at hst
    have h2 : f = (slotN env n, [d]) → get n env2 = some x := fun h => by rw [hx2 _ (by rw [h]) (slotN_self n), hx]
    cases x <;> first
      | exact absurd rfl (hnt _)
      | (cases hst; done)
      | (simp only [Option.some.injEq] at hf
         have h3 := h2 hf.symm
         subst hf
         simp only at hst
         split at hst
         · cases hst
         · rename_i hcnd
           simp only [Option.some.injEq] at hst
           refine loc_put hs hs2 hc2 hst.symm ?_
           simp only [stepS, h3, Option.bind_some]
           rw [if_neg hcnd])

theorem loc_as (hs : Srt env) (hs2 : Srt env2) {d n : Nat} {e : Env} (hst : stepS o env (.as d (.t n)) = some e) {f : List Nat × List Nat} (hf : foot o env (.as d (.t n)) = some f) (ha : Agree env env2 f.1) (hw : Agree env env2 f.2) (hc : NC env f.2) (hc2 : NC env2 f.2) : Loc o (.as d (.t n)) e f.2 env2 := by
  simp only [foot] at hf
  have hand_get : ∀ {env : Env} (hs : Srt env) {m d n : Nat} {y : V} (hmd : m ≠ d) (hnd : n ≠ d) (hc : NC env (if n = m then [d, m] else [d, m, n])) (hnm : n ≠ m → nm env n = some m), Srt (hand m d y env) ∧ get m (hand m d y env) = some (.al d) ∧ get d (hand m d y env) = some y ∧ (n ≠ m → get n (hand m d y env) = none) ∧
      ∀ k, k ∉ (if n = m then [d, m] else [d, m, n]) → get k (hand m d y env) = get k env := by
    intro env hs m d n y hmd hnd hc hnm
    have hsp : Srt (purge m env) := hs.filter _
    have hdW : d ∈ (if n = m then [d, m] else [d, m, n]) := by split <;> simp
    have hmW : m ∈ (if n = m then [d, m] else [d, m, n]) := by split <;> simp
    have hother : ∀ k, k ∉ (if n = m then [d, m] else [d, m, n]) → get k (put' d y (purge m env)) = get k env := by
      intro k hk
      have hk1 : get k (purge m env) = get k env := by
        rw [get_purge hs]
        cases hq : get k env with
        | none => rfl
        | some z =>
          simp only [Option.bind_some]
          split
          · rename_i hz; exact absurd (hc k m hmW (by simp [nm, hq, hz])) hk
          · rfl
      rw [← hk1]
      rw [get_put' hsp, if_neg (fun h => hk (by rw [h]; exact hdW))]
      cases hq : get d (purge m env) with
      | none => rfl
      | some z =>
        simp only
        rw [hk1]
        cases hq' : get k env with
        | none => rfl
        | some z' =>
          simp only [Option.bind_some]
          split
          · rename_i hz; exact absurd (hc k d hdW (by simp [nm, hq', hz])) hk
          · rfl
    refine ⟨(hsp.put' _ _).put _ _, ?_, ?_, fun hne => ?_, fun k hk => ?_⟩
    · unfold hand; rw [get_put, if_pos rfl]
    · unfold hand; rw [get_put, if_neg (Ne.symm hmd), get_put' hsp, if_pos rfl]
    · unfold hand
      rw [get_put, if_neg hne, get_put' hsp, if_neg hnd]
      have hk1 : get n (purge m env) = none := by
        rw [get_purge hs]
        have := hnm hne
        unfold nm at this
        cases hq : get n env with
        | none => rfl
        | some z => rw [hq] at this; simp only [Option.bind_some] at this ⊢; rw [if_pos this]
      cases hq : get d (purge m env) <;> simp [hk1]
    · unfold hand
      rw [get_put, if_neg (fun h => hk (by rw [h]; exact hmW))]
      exact hother k hk
  have own : ∀ (m : Nat) (y : V), owner env (.t n) = some m → get m env = some y → y.isOwn = true → (n ≠ m → nm env n = some m) → stepS o env (.as d (.t n)) = some e → (∀ env2, get n env2 = get n env → get m env2 = get m env → stepS o env2 (.as d (.t n)) = (if m = d then none else some (hand m d y env2))) → Loc o (.as d (.t n)) e f.2 env2 := by
    intro m y ho hy hown hnm hst hstep
    rw [ho] at hf
    simp only [hy] at hf
    split at hf
    · rename_i hcond
      simp only [Option.some.injEq] at hf
      simp only [Bool.and_eq_true, bne_iff_ne] at hcond
      subst hf
      simp only at *
      have hnW : n ∈ (if n = m then [d, m] else [d, m, n]) := by split <;> simp_all
      have hmW : m ∈ (if n = m then [d, m] else [d, m, n]) := by split <;> simp
      have hdW : d ∈ (if n = m then [d, m] else [d, m, n]) := by split <;> simp
      have e1 := hstep env rfl rfl
      rw [hst, if_neg hcond.2] at e1
      cases e1
      have e2 := hstep env2 (hw n hnW) (hw m hmW)
      rw [if_neg hcond.2] at e2
      have hnm2 : n ≠ m → nm env2 n = some m := fun h => by unfold nm; rw [hw n hnW]; exact hnm h
      obtain ⟨_, a1, a2, a3, a4⟩ := hand_get hs (y := y) hcond.2 hcond.1.2 hc hnm
      obtain ⟨b0, b1, b2, b3, b4⟩ := hand_get hs2 (y := y) hcond.2 hcond.1.2 hc2 hnm2
      refine ⟨_, e2, b0, fun k hk => ?_, b4⟩
      by_cases hnm' : n = m
      · rw [if_pos hnm'] at hk
        simp only [List.mem_cons, List.not_mem_nil, or_false] at hk
        rcases hk with rfl | rfl
        · rw [a2, b2]
        · rw [a1, b1]
      · rw [if_neg hnm'] at hk
        simp only [List.mem_cons, List.not_mem_nil, or_false] at hk
        rcases hk with rfl | rfl | rfl
        · rw [a2, b2]
        · rw [a1, b1]
        · rw [a3 hnm', b3 hnm']
    · rename_i hcond
      cases hf
  have plain : ∀ (y : V), f = (slotN env n, [d]) → stepS o env (.as d (.t n)) = some e → (∀ env2, Agree env env2 (slotN env n) → stepS o env2 (.as d (.t n)) = some (put' d y env2)) → Loc o (.as d (.t n)) e f.2 env2 := by
    intro y hf hst hstep
    subst hf
    have e1 := hstep env (fun _ _ => rfl)
    rw [hst] at e1
    cases e1
    exact loc_put hs hs2 hc2 rfl (hstep env2 ha)
  have hst0 := hst
  simp only [stepS] at hst
  cases hx : get n env with
  | none => rw [hx] at hst; cases hst
  | some x =>
    rw [hx] at hst
    simp only [Option.bind_some] at hst
    have direct : x.names = none → (∀ env2, get n env2 = some x → stepS o env2 (.as d (.t n)) = (if x.isOwn = true then (if n = d then none else some (hand n d x env2)) else some (put' d x env2))) → Loc o (.as d (.t n)) e f.2 env2 := by
      intro hnn hstep
      have hg : ∀ env2, get n env2 = get n env → get n env2 = some x := fun env2 h => h.trans hx
      by_cases hown : x.isOwn = true
      · refine own n x (by simp [owner, hx, hnn, hown]) hx hown (fun h => absurd rfl h) hst0 fun env2 h1 _ => ?_
        rw [hstep env2 (hg _ h1), if_pos hown]
      · have ho : owner env (.t n) = none := by simp [owner, hx, hnn, hown]
        rw [ho] at hf
        simp only [Option.some.injEq] at hf
        refine plain x hf.symm hst0 fun env2 h => ?_
        rw [hstep env2 (hg _ (h n (slotN_self n))), if_neg hown]
    cases x with
    | al m =>
      simp only at hst
      cases hy : get m env with
      | none => rw [hy] at hst; cases hst
      | some y =>
        rw [hy] at hst
        simp only [Option.bind_some] at hst
        have ho : owner env (.t n) = some m := by simp [owner, hx, V.names]
        by_cases hown : y.isOwn = true
        · refine own m y ho hy hown (fun _ => by simp [nm, hx, V.names]) hst0 fun env2 h1 h2 => ?_
          simp only [stepS, h1.trans hx, h2.trans hy, Option.bind_some]
          cases y <;> first | (simp [V.isOwn] at hown; done) | (simp only [hown, if_true])
        · rw [ho] at hf
          simp only [hy] at hf
          have hnot : (y.isOwn && n != d && m != d) = false := by simp [hown]
          rw [hnot, if_neg (by simp), if_neg hown] at hf
          simp only [Option.some.injEq] at hf
          cases hyk : y <;> rw [hyk] at hst <;> first
            | (cases hst; done)
            | (refine plain y hf.symm hst0 fun env2 h => ?_
               have h1 := (h n (slotN_self n)).trans hx
               have h2 := (h m (slotN_nm (by simp [nm, hx, V.names]))).trans hy
               simp only [stepS, h1, h2, Option.bind_some]
               subst hyk
               simp only [hown]
               simp)
            | (subst hyk; simp [V.isOwn] at hown; done)
    | pe _ _ _ _ => cases hst
    | pb _ _ _ => cases hst
    | t _ => cases hst
    | ud => cases hst
    | _ => exact direct rfl fun env2 h2 => by simp only [stepS, h2, Option.bind_some]


theorem loc_app (hs : Srt env) (hs2 : Srt env2) {d e1 k b n : Nat} {y : Src} {e : Env} (hst : stepS o env (.app d e1 k b (.t n) y) = some e) {f : List Nat × List Nat} (hf : foot o env (.app d e1 k b (.t n) y) = some f) (ha : Agree env env2 f.1) (hw : Agree env env2 f.2) (hc : NC env f.2) (hc2 : NC env2 f.2) : Loc o (.app d e1 k b (.t n) y) e f.2 env2 := by
  simp only [foot] at hf
  cases hm : rowOf env n with
  | none => rw [hm] at hf; cases hf
  | some m =>
    rw [hm] at hf
    simp only [Option.bind_some] at hf
    split at hf
    · rename_i hcond
      simp only [Bool.and_eq_true, bne_iff_ne] at hcond
      simp only [Option.some.injEq] at hf
      subst hf
      simp only at ha hw hc hc2
      have hnW : n ∈ (if n = m then [d, m] else [d, m, n]) := by split <;> simp_all
      have hmW : m ∈ (if n = m then [d, m] else [d, m, n]) := by split <;> simp
      have hdW : d ∈ (if n = m then [d, m] else [d, m, n]) := by split <;> simp
      have hn2 := hw n hnW
      have hm2 := hw m hmW
      have hrow2 : rowOf env2 n = some m := by simp only [rowOf, hn2]; exact hm
      have hly := lookS_agree (s := y) ha
      have hoy := owner_agree (s := y) ha
      simp only [stepS] at hst
      cases hv : lookS env y with
      | none => rw [hv] at hst; cases hst
      | some yv =>
        rw [hv] at hst
        simp only [Option.bind_some] at hst
        cases yv <;> first | (cases hst; done) | skip
        rename_i ys
        simp only at hst
        split at hst
        · rename_i hall
          rw [hm] at hst
          simp only [Option.bind_some] at hst
          cases hx : get m env with
          | none => rw [hx] at hst; cases hst
          | some x =>
            rw [hx] at hst
            simp only [Option.bind_some] at hst
            cases x <;> first | (cases hst; done) | skip
            rename_i e' es
            simp only at hst
            split at hst
            · rename_i hcd
              simp only [Option.some.injEq] at hst
              subst hst
              let G : Env → Nat → Option V := fun env k => if k = m then none else (get k env).bind fun x => if x.names = some m then none else if x.names = some n then none else some x
              have hgen : ∀ {env : Env}, Srt env → NC env (if n = m then [d, m] else [d, m, n]) → Srt (put' d (.ow e1 (es ++ ys)) (purge n (purge m (del m env)))) ∧
                  (∀ k, get k (put' d (.ow e1 (es ++ ys)) (purge n (purge m (del m env)))) = if k = d then some (.ow e1 (es ++ ys)) else match G env d with
                    | none => G env k
                    | some _ => (G env k).bind fun x => if x.names = some d then none else some x) ∧
                  ∀ k, k ∉ (if n = m then [d, m] else [d, m, n]) → get k (put' d (.ow e1 (es ++ ys)) (purge n (purge m (del m env)))) = get k env := by
                intro env hs hc
                have s1 : Srt (del m env) := hs.filter _
                have s2 : Srt (purge m (del m env)) := s1.filter _
                have s3 : Srt (purge n (purge m (del m env))) := s2.filter _
                have hg : ∀ k, get k (purge n (purge m (del m env))) = G env k := by
                  intro k
                  simp only [G]
                  rw [get_purge s2, get_purge s1, get_del hs]
                  by_cases hk : k = m
                  · simp [hk]
                  · rw [if_neg hk, if_neg hk]
                    cases get k env with
                    | none => rfl
                    | some z =>
                      simp only [Option.bind_some]
                      split <;> simp
                have hother : ∀ k, k ∉ (if n = m then [d, m] else [d, m, n]) → get k (purge n (purge m (del m env))) = get k env := by
                  intro k hk
                  rw [hg]
                  simp only [G]
                  rw [if_neg (fun h => hk (by rw [h]; exact hmW))]
                  cases hq : get k env with
                  | none => rfl
                  | some z =>
                    simp only [Option.bind_some]
                    rw [if_neg (fun h => hk (hc k m hmW (by simp [nm, hq, h]))), if_neg (fun h => hk (hc k n hnW (by simp [nm, hq, h])))]
                refine ⟨s3.put' _ _, fun k => by rw [get_put' s3, hg, hg]; rfl, fun k hk => ?_⟩
                · rw [get_put' s3, if_neg (fun h => hk (by rw [h]; exact hdW))]
                  cases hq : get d (purge n (purge m (del m env))) with
                  | none => exact hother k hk
                  | some z =>
                    simp only
                    rw [hother k hk]
                    cases hq' : get k env with
                    | none => rfl
                    | some z' =>
                      simp only [Option.bind_some]
                      rw [if_neg (fun h => hk (hc k d hdW (by simp [nm, hq', h])))]
              obtain ⟨_, a1, a2⟩ := hgen hs hc
              obtain ⟨b0, b1, b2⟩ := hgen hs2 hc2
              refine ⟨_, ?_, b0, fun k hk => ?_, b2⟩
              · simp only [stepS, hly, hv, Option.bind_some]
                rw [if_pos hall, hrow2]
                simp only [Option.bind_some, hm2, hx]
                rw [if_pos (by rw [hoy]; exact hcd)]
              · rw [a1 k, b1 k]
                simp only [G, hw k hk, hw d hdW]
            · cases hst
        · cases hst
    · cases hf
theorem lookM_agree {s : Src} (h : Agree env env2 (srcN env s)) : lookM env2 s = lookM env s := by
  have ho := owner_agree h
  have hl := lookS_agree h
  unfold lookM
  rw [ho, hl]
  split
  · rfl
  · cases s with
    | c v => rfl
    | t n =>
      have hn : get n env2 = get n env := h n (slotN_self n)
      simp only [hn]
      cases hx : get n env with
      | none => rfl
      | some x =>
        cases x <;> first | rfl | skip
        rename_i m
        have hm : get m env2 = get m env := h m (slotN_nm (by simp [nm, hx, V.names]))
        simp only [hm]
theorem lookMs_agree : ∀ {xs : List Src}, Agree env env2 (srcsN env xs) → lookMs env2 xs = lookMs env xs
  | [], _ => rfl
  | s :: r, h => by simp only [lookMs, lookM_agree h.left, lookMs_agree h.right]
theorem ownsNot_agree {m : Nat} : ∀ {xs : List Src}, Agree env env2 (srcsN env xs) → ownsNot env2 m xs = ownsNot env m xs
  | [], _ => rfl
  | s :: r, h => by simp only [ownsNot, owner_agree h.left, ownsNot_agree h.right]
theorem loc_callm (hs : Srt env) (hs2 : Srt env2) {d f0 n : Nat} {mu : Mut} {xs : List Src} {e : Env} (hst : stepS o env (.callm (some d) f0 mu (.t n) xs) = some e) {f : List Nat × List Nat} (hf : foot o env (.callm (some d) f0 mu (.t n) xs) = some f) (ha : Agree env env2 f.1) (hw : Agree env env2 f.2) (hc : NC env f.2) (hc2 : NC env2 f.2) : Loc o (.callm (some d) f0 mu (.t n) xs) e f.2 env2 := by
  simp only [foot] at hf
  cases hm : rowOf env n with
  | none => rw [hm] at hf; cases hf
  | some m =>
    rw [hm] at hf
    simp only [Option.bind_some] at hf
    split at hf
    · rename_i hcond
      simp only [Bool.and_eq_true, bne_iff_ne] at hcond
      obtain ⟨⟨hret, hc1⟩, hc2'⟩ := hcond
      have hcond := And.intro hc1 hc2'
      simp only [Option.some.injEq] at hf
      subst hf
      simp only at ha hw hc hc2
      have hnW : n ∈ (if n = m then [d, m] else [d, m, n]) := by split <;> simp_all
      have hmW : m ∈ (if n = m then [d, m] else [d, m, n]) := by split <;> simp
      have hdW : d ∈ (if n = m then [d, m] else [d, m, n]) := by split <;> simp
      have hn2 := hw n hnW
      have hm2 := hw m hmW
      have hrow2 : rowOf env2 n = some m := by simp only [rowOf, hn2]; exact hm
      have hly := lookMs_agree ha
      have hoy := ownsNot_agree (m := m) ha
      simp only [stepS] at hst
      cases hv : lookMs env xs with
      | none => rw [hv] at hst; cases hst
      | some vs =>
        rw [hv] at hst
        simp only [Option.bind_some] at hst
        rw [hm] at hst
        simp only [Option.bind_some] at hst
        cases hx : get m env with
        | none => rw [hx] at hst; cases hst
        | some x =>
          rw [hx] at hst
          simp only [Option.bind_some] at hst
          cases x <;> first | (cases hst; done) | skip
          rename_i e' es
          simp only at hst
          split at hst
          · rename_i hcd
            cases hrun : mu.run es vs with
            | none => rw [hrun] at hst; cases hst
            | some es1 =>
              rw [hrun] at hst
              simp only [Option.bind_some, Option.map_some, Option.some.injEq] at hst
              subst hst
              let G : Env → Nat → Option V := fun env k => if k = m then none else (get k env).bind fun x => if x.names = some m then none else if x.names = some n then none else some x
              have hgen : ∀ {env : Env}, Srt env → NC env (if n = m then [d, m] else [d, m, n]) → Srt (put' d (.ow e' es1) (purge n (purge m (del m env)))) ∧
                  (∀ k, get k (put' d (.ow e' es1) (purge n (purge m (del m env)))) = if k = d then some (.ow e' es1) else match G env d with
                    | none => G env k
                    | some _ => (G env k).bind fun x => if x.names = some d then none else some x) ∧
                  ∀ k, k ∉ (if n = m then [d, m] else [d, m, n]) → get k (put' d (.ow e' es1) (purge n (purge m (del m env)))) = get k env := by
                intro env hs hc
                have s1 : Srt (del m env) := hs.filter _
                have s2 : Srt (purge m (del m env)) := s1.filter _
                have s3 : Srt (purge n (purge m (del m env))) := s2.filter _
                have hg : ∀ k, get k (purge n (purge m (del m env))) = G env k := by
                  intro k
                  simp only [G]
                  rw [get_purge s2, get_purge s1, get_del hs]
                  by_cases hk : k = m
                  · simp [hk]
                  · rw [if_neg hk, if_neg hk]
                    cases get k env with
                    | none => rfl
                    | some z =>
                      simp only [Option.bind_some]
                      split <;> simp
                have hother : ∀ k, k ∉ (if n = m then [d, m] else [d, m, n]) → get k (purge n (purge m (del m env))) = get k env := by
                  intro k hk
                  rw [hg]
                  simp only [G]
                  rw [if_neg (fun h => hk (by rw [h]; exact hmW))]
                  cases hq : get k env with
                  | none => rfl
                  | some z =>
                    simp only [Option.bind_some]
                    rw [if_neg (fun h => hk (hc k m hmW (by simp [nm, hq, h]))), if_neg (fun h => hk (hc k n hnW (by simp [nm, hq, h])))]
                refine ⟨s3.put' _ _, fun k => by rw [get_put' s3, hg, hg]; rfl, fun k hk => ?_⟩
                · rw [get_put' s3, if_neg (fun h => hk (by rw [h]; exact hdW))]
                  cases hq : get d (purge n (purge m (del m env))) with
                  | none => exact hother k hk
                  | some z =>
                    simp only
                    rw [hother k hk]
                    cases hq' : get k env with
                    | none => rfl
                    | some z' =>
                      simp only [Option.bind_some]
                      rw [if_neg (fun h => hk (hc k d hdW (by simp [nm, hq', h])))]
              obtain ⟨_, a1, a2⟩ := hgen hs hc
              obtain ⟨b0, b1, b2⟩ := hgen hs2 hc2
              refine ⟨_, ?_, b0, fun k hk => ?_, b2⟩
              · simp only [stepS, hly, hv, Option.bind_some, hrow2, hm2, hx]
                rw [if_pos (by rw [hoy]; exact hcd), hrun]
                simp only [Option.bind_some, hret, if_true, Option.map_some]
              · rw [a1 k, b1 k]
                simp only [G, hw k hk, hw d hdW]
          · cases hst
    · cases hf
end
end Go.VM
/-
  Steps in any order: stores, the rest, and a region that draws its order. No program is named here.
-/
namespace Go.VM
open Go.RowKit
variable [Glob]

section
variable {o : Orc} {env env2 : Env}

theorem loc_put1 (hs2 : Srt env2) {t : Nat} {v : V} {s : St} {e : Env} (he : e = put t v env) (h2 : stepS o env2 s = some (put t v env2)) : Loc o s e [t] env2 := by
  subst he
  refine ⟨_, h2, hs2.put _ _, fun n hn => ?_, fun n hn => ?_⟩
  · simp only [List.mem_singleton] at hn
    rw [get_put, get_put, if_pos hn, if_pos hn]
  · simp only [List.mem_singleton] at hn
    rw [get_put, if_neg hn]

theorem loc_put2 (hs2 : Srt env2) {t : Nat} {ns : List Nat} {v : V} {s : St} {e : Env} (hw : Agree env env2 (t :: ns)) (he : e = put t v env) (h2 : stepS o env2 s = some (put t v env2)) : Loc o s e (t :: ns) env2 := by
  subst he
  refine ⟨_, h2, hs2.put _ _, fun n hn => ?_, fun n hn => ?_⟩
  · rw [get_put, get_put]
    split
    · rfl
    · exact hw n hn
  · rw [get_put, if_neg (fun (h : n = t) => hn (by rw [h]; exact List.mem_cons_self ..))]

theorem loc_sto (hs2 : Srt env2) {sz s : Nat} {v : Src} {e : Env} (hst : stepS o env (.sto sz (.t s) v) = some e) {f : List Nat × List Nat} (hf : foot o env (.sto sz (.t s) v) = some f) (ha : Agree env env2 f.1) (hw : Agree env env2 f.2) : Loc o (.sto sz (.t s) v) e f.2 env2 := by
  simp only [foot] at hf
  split at hf
  · rename_i hno
    have hfr := freeze_noOwn hno
    have hst' : ∀ E, lookS E v = lookS env v → freeze E [v] = E → stepS o E (.sto sz (.t s) v) = (lookS env v).bind fun y => if y.cells.length = sz ∧ y.cells.all V.cell then
        (get s E).bind fun x => match x with
        | .bx cs => if cs.length = sz then some (put s (.bx y.cells) E) else none
        | .al m => (get m E).bind fun z => match z with
          | .bx cs => if cs.length = sz then some (put m (.bx y.cells) E) else none
          | _ => none
        | .pb m off n => if n = sz then (get m E).bind fun z => match z with
            | .bx cs => if off + sz ≤ cs.length then some (put m (.bx (splice cs off y.cells)) E) else none
            | _ => none
          else none
        | .pe m i off n => if n = sz then (get m E).bind fun z => match z with
            | .ow k es => (es[i]?).bind fun e => if 0 < sz ∧ off + sz ≤ e.cells.length then
                some (put m (.ow k (es.set i (newE e off y))) E) else none
            | _ => none
          else none
        | _ => none
      else none := by
      intro E h1 h2
      simp only [stepS, h1, h2]
      rfl
    rw [hst' env rfl hfr] at hst
    cases hy : lookS env v with
    | none => rw [hy] at hst; cases hst
    | some y =>
      have hst2 := hst' env2
      rw [hy] at hst hst2
      simp only [Option.bind_some] at hst hst2
      split at hst
      · rename_i hcond
        rw [if_pos hcond] at hst2
        have agr : Agree env env2 (srcN env v) → lookS env2 v = some y ∧ freeze env2 [v] = env2 := fun h => by
          refine ⟨(lookS_agree h).trans hy, freeze_noOwn ?_⟩
          simp only [noOwn, owner_agree h]
          simpa [noOwn] using hno
        cases hx : get s env with
        | none => rw [hx] at hst; cases hst
        | some x =>
          rw [hx] at hst hf
          simp only [Option.bind_some] at hst
          have names : ∀ m, x.names = some m → f = (s :: srcN env v, m :: namers m env) → lookS env2 v = some y ∧ freeze env2 [v] = env2 ∧ get s env2 = some x ∧ get m env2 = get m env := by
            intro m _ hfm
            subst hfm
            obtain ⟨h1, h2⟩ := agr fun n hn => ha n (List.mem_cons_of_mem _ hn)
            exact ⟨h1, h2, (ha s (List.mem_cons_self ..)).trans hx, hw m (by simp)⟩
          cases x with
          | bx cs =>
            simp only [Option.some.injEq] at hf hst
            subst hf
            split at hst
            · rename_i hl
              simp only [Option.some.injEq] at hst
              obtain ⟨h1, h2⟩ := agr ha
              refine loc_put1 hs2 hst.symm ?_
              rw [hst2 h1 h2, (hw s (by simp)).trans hx]
              simp only [Option.bind_some]
              rw [if_pos hl]
            · cases hst
          | al m =>
            simp only [V.names, Option.map_some, Option.some.injEq] at hf
            obtain ⟨h1, h2, h3, h4⟩ := names m rfl hf.symm
            subst hf
            simp only at hst
            cases hz : get m env with
            | none => rw [hz] at hst; cases hst
            | some z =>
              rw [hz] at hst
              simp only [Option.bind_some] at hst
              cases z <;> first | (cases hst; done) | skip
              simp only at hst
              split at hst
              · rename_i hl
                simp only [Option.some.injEq] at hst
                refine loc_put2 hs2 hw hst.symm ?_
                rw [hst2 h1 h2, h3]
                simp only [Option.bind_some, h4, hz]
                rw [if_pos hl]
              · cases hst
          | pb m off n =>
            simp only [V.names, Option.map_some, Option.some.injEq] at hf
            obtain ⟨h1, h2, h3, h4⟩ := names m rfl hf.symm
            subst hf
            simp only at hst
            split at hst
            · rename_i hn
              cases hz : get m env with
              | none => rw [hz] at hst; cases hst
              | some z =>
                rw [hz] at hst
                simp only [Option.bind_some] at hst
                cases z <;> first | (cases hst; done) | skip
                simp only at hst
                split at hst
                · rename_i hl
                  simp only [Option.some.injEq] at hst
                  refine loc_put2 hs2 hw hst.symm ?_
                  rw [hst2 h1 h2, h3]
                  simp only [Option.bind_some, h4, hz]
                  rw [if_pos hn, if_pos hl]
                · cases hst
            · cases hst
          | pe m i off n =>
            simp only [V.names, Option.map_some, Option.some.injEq] at hf
            obtain ⟨h1, h2, h3, h4⟩ := names m rfl hf.symm
            subst hf
            simp only at hst
            split at hst
            · rename_i hn
              cases hz : get m env with
              | none => rw [hz] at hst; cases hst
              | some z =>
                rw [hz] at hst
                simp only [Option.bind_some] at hst
                cases z <;> first | (cases hst; done) | skip
                rename_i k es
                simp only at hst
                cases hei : es[i]? with
                | none => rw [hei] at hst; cases hst
                | some ei =>
                  rw [hei] at hst
                  simp only [Option.bind_some] at hst
                  split at hst
                  · rename_i hl
                    simp only [Option.some.injEq] at hst
                    refine loc_put2 hs2 hw hst.symm ?_
                    rw [hst2 h1 h2, h3]
                    simp only [Option.bind_some, h4, hz, hei]
                    rw [if_pos hn, if_pos hl]
                  · cases hst
            · cases hst
          | _ => cases hst
      · cases hst
  · cases hf

theorem mapOf_agree {n : Nat} (h : Agree env env2 (slotN env n)) : mapOf env2 n = mapOf env n := by
  have h1 := h n (slotN_self n)
  have h2 : ∀ m, nm env n = some m → get m env2 = get m env := fun m hm => h m (slotN_nm hm)
  unfold mapOf
  rw [h1]
  cases hx : get n env with
  | none => rfl
  | some x =>
    unfold nm at h2
    rw [hx] at h2
    cases x <;> first
      | rfl
      | (simp only [h2 _ rfl]; done)
theorem loc_mset (hs2 : Srt env2) {kt n : Nat} {k v : Src} {e : Env} (hst : stepS o env (.mset kt (.t n) k v) = some e) {f : List Nat × List Nat} (hf : foot o env (.mset kt (.t n) k v) = some f) (ha : Agree env env2 f.1) (hw : Agree env env2 f.2) : Loc o (.mset kt (.t n) k v) e f.2 env2 := by
  simp only [foot] at hf
  cases hm : mapOf env n with
  | none => rw [hm] at hf; cases hf
  | some p =>
    rw [hm] at hf
    simp only [Option.map_some, Option.some.injEq] at hf
    subst hf
    have h0 := mapOf_agree (Agree.left ha)
    have h1 := lookS_agree (Agree.left (Agree.right ha))
    have h2 := lookS_agree (Agree.right (Agree.right ha))
    rw [hm] at h0
    simp only [stepS, hm] at hst
    cases hk : lookS env k with
    | none => rw [hk] at hst; cases hst
    | some kv =>
      cases hv : lookS env v with
      | none => rw [hk, hv] at hst; cases hst
      | some x =>
        rw [hk, hv] at hst
        rw [hk] at h1
        rw [hv] at h2
        simp only [Option.bind_some] at hst
        split at hst
        · rename_i hc
          refine loc_put2 hs2 hw (Option.some.inj hst).symm ?_
          simp only [stepS, h0, h1, h2, Option.bind_some]
          rw [if_pos hc]
        · cases hst
theorem loc_ext (hs : Srt env) (hs2 : Srt env2) {d i n : Nat} {e : Env} (hst : stepS o env (.ext d i n) = some e) {f : List Nat × List Nat} (hf : foot o env (.ext d i n) = some f) (ha : Agree env env2 f.1) (hw : Agree env env2 f.2) (hc2 : NC env2 f.2) : Loc o (.ext d i n) e f.2 env2 := by
  simp only [foot] at hf
  simp only [stepS] at hst
  cases hx : get n env with
  | none => rw [hx] at hst; cases hst
  | some x =>
    rw [hx] at hst hf
    simp only [Option.bind_some] at hst
    cases x <;> first | (cases hst; done) | skip
    rename_i vs
    simp only at hst hf
    cases hv : vs[i]? with
    | none => rw [hv] at hst; cases hst
    | some y =>
      rw [hv] at hst hf
      simp only [Option.bind_some, Option.some.injEq] at hst hf
      split at hf
      case isFalse => cases hf
      rename_i hnd
      simp only [bne_iff_ne] at hnd
      by_cases hown : y.isOwn = true
      case neg =>
        rw [if_neg hown] at hst hf
        simp only [Option.some.injEq] at hf
        subst hf
        have hn2 : get n env2 = get n env := ha n (by simp)
        refine loc_put hs hs2 hc2 hst.symm ?_
        simp only [stepS, hn2, hx, Option.bind_some, hv]
        rw [if_neg hown]
      case pos =>
        rw [if_pos hown] at hst hf
        simp only [Option.some.injEq] at hf
        subst hf
        subst hst
        have hn2 := hw n (by simp)
        have hd2 := hw d (by simp)
        refine ⟨put' d y (put n (.t (vs.set i .ud)) env2), by simp only [stepS, hn2, hx, Option.bind_some, hv]; rw [if_pos hown], (hs2.put _ _).put' _ _, fun k hk => ?_, fun k hk => ?_⟩
        · rw [get_put' (hs.put _ _), get_put' (hs2.put _ _)]
          by_cases hkd : k = d
          · rw [if_pos hkd, if_pos hkd]
          · rw [if_neg hkd, if_neg hkd]
            simp only [get_put, if_neg (Ne.symm hnd), hd2]
            have : get k env2 = get k env := hw k hk
            rw [this]
        · rw [get_put' (hs2.put _ _), if_neg (fun h => hk (by simp [h]))]
          have hkn : k ≠ n := fun h => hk (by simp [h])
          simp only [get_put, if_neg (Ne.symm hnd), if_neg hkn]
          cases get d env2 with
          | none => rfl
          | some z =>
            simp only
            cases hq : get k env2 with
            | none => rfl
            | some z' =>
              simp only [Option.bind_some]
              split
              · rename_i hz; exact absurd (hc2 k d (by simp) (by simp [nm, hq, hz])) hk
              · rfl

theorem loc_mvt (hs : Srt env) (hs2 : Srt env2) {d n : Nat} {ys : List V} (hx : get n env = some (.t ys)) {e : Env} (hst : stepS o env (.mv d (.t n)) = some e) {f : List Nat × List Nat} (hf : foot o env (.mv d (.t n)) = some f) (hw : Agree env env2 f.2) (hc2 : NC env2 f.2) : Loc o (.mv d (.t n)) e f.2 env2 := by
  simp only [foot, hx] at hf
  split at hf
  · rename_i hnd
    simp only [bne_iff_ne] at hnd
    simp only [Option.some.injEq] at hf
    subst hf
    simp only [stepS, hx, Option.bind_some] at hst
    have hn2 := hw n (by simp)
    have hd2 := hw d (by simp)
    rw [if_neg (Ne.symm hnd)] at hst
    simp only [Option.some.injEq] at hst
    subst hst
    refine ⟨put' d (.t ys) (put n .ud env2), by simp only [stepS, hn2, hx, Option.bind_some]; rw [if_neg (Ne.symm hnd)], (hs2.put _ _).put' _ _, fun k hk => ?_, fun k hk => ?_⟩
    · rw [get_put' (hs.put _ _), get_put' (hs2.put _ _)]
      by_cases hkd : k = d
      · rw [if_pos hkd, if_pos hkd]
      · rw [if_neg hkd, if_neg hkd]
        simp only [get_put, if_neg (Ne.symm hnd), hd2]
        have : get k env2 = get k env := hw k hk
        rw [this]
    · rw [get_put' (hs2.put _ _), if_neg (fun h => hk (by simp [h]))]
      have hkn : k ≠ n := fun h => hk (by simp [h])
      simp only [get_put, if_neg (Ne.symm hnd), if_neg hkn]
      cases get d env2 with
      | none => rfl
      | some z =>
        simp only
        cases hq : get k env2 with
        | none => rfl
        | some z' =>
          simp only [Option.bind_some]
          split
          · rename_i hz; exact absurd (hc2 k d (by simp) (by simp [nm, hq, hz])) hk
          · rfl
  · cases hf

theorem Agree.one {s : Src} (h : Agree env env2 (srcsN env [s])) : Agree env env2 (srcN env s) := by
  simp only [srcsN] at h
  exact h.left
theorem Agree.ones {s : Src} (h : Agree env env2 (srcN env s)) : Agree env env2 (srcsN env [s]) := by
  simpa only [srcsN, List.append_nil] using h

theorem freeze_get2 : ∀ {xs : List Src} {env env2 : Env}, (∀ n, Src.t n ∈ xs → get n env2 = get n env) → ∀ k, get k env2 = get k env → get k (freeze env2 xs) = get k (freeze env xs)
  | [], _, _, _, _, hk => hk
  | s :: r, env, env2, h, k, hk => by
    have ho : owner env2 s = owner env s := by
      cases s with
      | c v => rfl
      | t n => simp only [owner, h n (List.mem_cons_self ..)]
    rw [freeze_cons, freeze_cons, ho]
    cases hm : owner env s with
    | none => exact freeze_get2 (fun n hn => h n (List.mem_cons_of_mem _ hn)) k hk
    | some m =>
      have step : ∀ n, get n env2 = get n env → get n (freeze1 m env2) = get n (freeze1 m env) := by
        intro n hn
        rw [get_freeze1, get_freeze1]
        split
        · rename_i he; subst he; rw [hn]
        · exact hn
      exact freeze_get2 (fun n hn => step n (h n (List.mem_cons_of_mem _ hn))) k (step k hk)
theorem nm_freeze1 (m n : Nat) : nm (freeze1 m env) n = nm env n := by
  unfold nm
  rw [get_freeze1]
  split
  · rename_i he
    subst he
    cases hx : get n env with
    | none => rfl
    | some x =>
      simp only [Option.map_some, Option.bind_some]
      split
      · rename_i hown; cases x <;> first | rfl | (simp [V.isOwn] at hown; done)
      · rfl
  · rfl
theorem srcsN_freeze1 (m : Nat) : ∀ xs : List Src, srcsN (freeze1 m env) xs = srcsN env xs
  | [] => rfl
  | s :: r => by
    simp only [srcsN, srcsN_freeze1 m r]
    congr 1
    cases s with
    | c v => rfl
    | t n =>
      have := nm_freeze1 (env := env) m n
      unfold nm at this
      simp only [srcN, slotN, this]
theorem freeze_other : ∀ {xs : List Src} {env : Env} {k : Nat}, k ∉ srcsN env xs → get k (freeze env xs) = get k env
  | [], _, _, _ => rfl
  | s :: r, env, k, h => by
    simp only [srcsN, List.mem_append, not_or] at h
    rw [freeze_cons]
    cases hm : owner env s with
    | none => exact freeze_other h.2
    | some m =>
      simp only
      rw [freeze_other (by rw [srcsN_freeze1]; exact h.2), get_freeze1, if_neg]
      rintro rfl
      refine h.1 ?_
      cases s with
      | c v => cases hm
      | t n =>
        simp only [owner] at hm
        cases hx : get n env with
        | none => rw [hx] at hm; cases hm
        | some x =>
          rw [hx] at hm
          simp only at hm
          cases hn : x.names with
          | some m' =>
            rw [hn] at hm
            simp only [Option.some.injEq] at hm
            subst hm
            exact slotN_nm (by simp [nm, hx, hn])
          | none =>
            rw [hn] at hm
            simp only at hm
            split at hm
            · simp only [Option.some.injEq] at hm; subst hm; exact slotN_self _
            · cases hm
theorem Srt.freeze' : ∀ {xs : List Src} {env : Env}, Srt env → Srt (freeze env xs)
  | [], _, h => h
  | s :: r, env, h => by
    rw [freeze_cons]
    cases owner env s with
    | none => exact Srt.freeze' h
    | some m => exact Srt.freeze' (h.freeze1 m)
theorem mem_srcsN {n : Nat} : ∀ {xs : List Src}, Src.t n ∈ xs → n ∈ srcsN env xs
  | s :: r, h => by
    simp only [srcsN, List.mem_append]
    rcases List.mem_cons.1 h with rfl | h
    · exact .inl (slotN_self n)
    · exact .inr (mem_srcsN h)
theorem loc_frz (hs : Srt env) (hs2 : Srt env2) {d : Option Nat} {xs : List Src} {v : V} (hw : Agree env env2 (d.toList ++ srcsN env xs)) (hc2 : NC env2 (d.toList ++ srcsN env xs)) {s : St} {e : Env} (he : e = putO d v (freeze env xs)) (h2 : stepS o env2 s = some (putO d v (freeze env2 xs))) : Loc o s e (d.toList ++ srcsN env xs) env2 := by
  subst he
  have hag : ∀ n, Src.t n ∈ xs → get n env2 = get n env := fun n hn => hw n (List.mem_append_right _ (mem_srcsN hn))
  have hsr : srcsN env2 xs = srcsN env xs := by
    have key : ∀ ys : List Src, (∀ n, Src.t n ∈ ys → get n env2 = get n env) → srcsN env2 ys = srcsN env ys := by
      intro ys
      induction ys with
      | nil => intro _; rfl
      | cons s r ih =>
        intro h
        simp only [srcsN, ih fun n hn => h n (List.mem_cons_of_mem _ hn)]
        congr 1
        cases s with
        | c v => rfl
        | t n => simp only [srcN, slotN, h n (List.mem_cons_self ..)]
    exact key xs hag
  cases d with
  | none =>
    refine ⟨_, h2, hs2.freeze', fun n hn => freeze_get2 (xs := xs) hag n (hw n hn), fun n hn => freeze_other (fun h => hn (List.mem_append_right _ (hsr ▸ h)))⟩
  | some d =>
    have hd := freeze_get2 (xs := xs) hag d (hw d (List.mem_append_left _ (by simp)))
    refine ⟨_, h2, hs2.freeze'.put' _ _, fun n hn => ?_, fun n hn => ?_⟩
    · have hn2 := freeze_get2 (xs := xs) hag n (hw n hn)
      show get n (put' d v (freeze env2 xs)) = get n (put' d v (freeze env xs))
      rw [get_put' hs.freeze', get_put' hs2.freeze', hd, hn2]
    · have hnd : n ≠ d := fun e => hn (List.mem_append_left _ (by simp [e]))
      have hns : n ∉ srcsN env2 xs := fun h => hn (List.mem_append_right _ (hsr ▸ h))
      have hnm : nm env2 n ≠ some d := fun h => hn (hc2 n d (List.mem_append_left _ (by simp)) h)
      show get n (put' d v (freeze env2 xs)) = _
      rw [get_put' hs2.freeze', if_neg hnd, freeze_other hns]
      cases get d (freeze env2 xs) with
      | none => rfl
      | some y =>
        simp only
        cases hq : get n env2 with
        | none => rfl
        | some z =>
          simp only [Option.bind_some]
          split
          · rename_i hz; exact absurd (by simp [nm, hq, hz]) hnm
          · rfl
theorem loc (hs : Srt env) (hs2 : Srt env2) {s : St} {e : Env} (hst : stepS o env s = some e) {f : List Nat × List Nat} (hf : foot o env s = some f) (ha : Agree env env2 f.1) (hw : Agree env env2 f.2) (hc : NC env f.2) (hc2 : NC env2 f.2) : Loc o s e f.2 env2 := by
  have call : ∀ (d : Option Nat) (xs : List Src) (F : List V → Option V) (s : St), (∀ E, stepS o E s = (lookSs E xs).bind fun vs => (F vs).bind fun r => some (putO d r (if r.flat then E else freeze E xs))) → stepS o env s = some e →
      (if noOwn env xs then some (srcsN env xs, d.toList) else footC ((lookSs env xs).bind F) (srcsN env xs, d.toList) ([], d.toList ++ srcsN env xs)) = some f → Loc o s e f.2 env2 := by
    intro d xs F s hs' hst hf
    have reads : (noOwn env xs = true ∨ ∃ r, (lookSs env xs).bind F = some r ∧ r.flat = true) → f = (srcsN env xs, d.toList) → Loc o s e f.2 env2 := by
      intro hcond hf
      subst hf
      have hl := lookSs_agree (xs := xs) ha
      have h2 := hs' env2
      rw [hs' env] at hst
      rw [hl] at h2
      cases hv : lookSs env xs with
      | none => rw [hv] at hst; cases hst
      | some vs =>
        rw [hv] at hst h2 hcond
        simp only [Option.bind_some] at hst h2 hcond
        cases hr : F vs with
        | none => rw [hr] at hst; cases hst
        | some r =>
          rw [hr] at hst h2 hcond
          simp only [Option.bind_some, Option.some.injEq] at hst h2 hcond
          have he : ∀ E, noOwn E xs = noOwn env xs → (if r.flat = true then E else freeze E xs) = E := by
            intro E hE
            split
            · rfl
            · rename_i hfl
              rcases hcond with h | ⟨_, rfl, h⟩
              · exact freeze_noOwn (hE.trans h)
              · exact absurd h hfl
          rw [he env rfl] at hst
          rw [he env2 (noOwn_agree ha)] at h2
          exact loc_putO hs hs2 hc2 hst.symm h2
    split at hf
    · rename_i hcond
      exact reads (.inl hcond) (Option.some.inj hf).symm
    · unfold footC at hf
      split at hf
      · rename_i r hr
        simp only [Option.some.injEq] at hf
        by_cases hfl : r.flat = true
        · rw [if_pos hfl] at hf
          exact reads (.inr ⟨r, hr, hfl⟩) hf.symm
        · rw [if_neg hfl] at hf
          subst hf
          have hag : Agree env env2 (srcsN env xs) := fun n hn => hw n (List.mem_append_right _ hn)
          have hl := lookSs_agree (xs := xs) hag
          have h2 := hs' env2
          rw [hs' env] at hst
          rw [hl] at h2
          cases hv : lookSs env xs with
          | none => rw [hv] at hst; cases hst
          | some vs =>
            rw [hv] at hst h2 hr
            simp only [Option.bind_some] at hst h2 hr
            rw [hr] at hst h2
            simp only [Option.bind_some, if_neg hfl, Option.some.injEq] at hst h2
            exact loc_frz hs hs2 hw hc2 hst.symm h2
      · cases hf
  have frz : ∀ (d : Nat) (xs : List Src) (F : List V → Option V) (s : St), (∀ E, stepS o E s = (lookSs E xs).bind fun vs => (F vs).bind fun r => some (put' d r (freeze E xs))) → stepS o env s = some e →
      (if noOwn env xs then some (srcsN env xs, [d]) else some ([], d :: srcsN env xs)) = some f → Loc o s e f.2 env2 := by
    intro d xs F s hs' hst hf
    split at hf
    · rename_i hno
      simp only [Option.some.injEq] at hf
      subst hf
      have hl := lookSs_agree (xs := xs) ha
      have h2 := hs' env2
      rw [hs' env] at hst
      rw [hl, freeze_noOwn ((noOwn_agree ha).trans hno)] at h2
      rw [freeze_noOwn hno] at hst
      cases hv : lookSs env xs with
      | none => rw [hv] at hst; cases hst
      | some vs =>
        rw [hv] at hst h2
        simp only [Option.bind_some] at hst h2
        cases hr : F vs with
        | none => rw [hr] at hst; cases hst
        | some r =>
          rw [hr] at hst h2
          simp only [Option.bind_some, Option.some.injEq] at hst h2
          exact loc_put hs hs2 hc2 hst.symm h2
    · simp only [Option.some.injEq] at hf
      subst hf
      have hag : Agree env env2 (srcsN env xs) := fun n hn => hw n (List.mem_cons_of_mem _ hn)
      have hl := lookSs_agree (xs := xs) hag
      have h2 := hs' env2
      rw [hs' env] at hst
      rw [hl] at h2
      cases hv : lookSs env xs with
      | none => rw [hv] at hst; cases hst
      | some vs =>
        rw [hv] at hst h2
        simp only [Option.bind_some] at hst h2
        cases hr : F vs with
        | none => rw [hr] at hst; cases hst
        | some r =>
          rw [hr] at hst h2
          simp only [Option.bind_some, Option.some.injEq] at hst h2
          exact loc_frz (d := some d) hs hs2 hw hc2 hst.symm h2
  have still : ∀ (d : Nat) (F : Env → Option V) (s : St), (∀ E, stepS o E s = (F E).bind fun r => some (put' d r E)) → F env2 = F env → stepS o env s = some e → f.2 = [d] → Loc o s e f.2 env2 := by
    intro d F s hs' hF hst hf
    rw [hf] at hc2 ⊢
    have h2 := hs' env2
    rw [hs' env] at hst
    rw [hF] at h2
    cases hv : F env with
    | none => rw [hv] at hst; cases hst
    | some r =>
      rw [hv] at hst h2
      simp only [Option.bind_some, Option.some.injEq] at hst h2
      exact loc_put hs hs2 hc2 hst.symm h2
  cases s with
  | mv d s =>
    cases s with
    | c v =>
      simp only [foot, Option.some.injEq] at hf
      exact still d (fun _ => some v) _ (fun E => by simp only [stepS, Option.bind_some]) rfl hst (by rw [← hf])
    | t n =>
      cases hx : get n env with
      | none => simp [stepS, hx] at hst
      | some x =>
        by_cases ht : ∃ ys, x = .t ys
        · obtain ⟨ys, rfl⟩ := ht
          exact loc_mvt hs hs2 hx hst hf hw hc2
        · exact loc_mv hs hs2 hx (fun ys e => ht ⟨ys, e⟩) hst hf ha hc2
  | as d s =>
    cases s with
    | c v =>
      simp only [foot, Option.some.injEq] at hf
      exact still d (fun _ => some v) _ (fun E => by simp only [stepS, Option.bind_some]) rfl hst (by rw [← hf])
    | t n => exact loc_as hs hs2 hst hf ha hw hc hc2
  | q d p xs =>
    simp only [foot, Option.some.injEq] at hf
    have ha' : Agree env env2 (srcsN env xs) := by rw [← hf] at ha; exact ha
    refine still d (fun E => (lookSs E xs).bind fun vs => (opQ o p vs).bind fun r => if r.flat1 || p.loads then some r else none) _ (fun E => ?_) ?_ hst (by rw [← hf])
    · simp only [stepS]
      cases lookSs E xs with
      | none => rfl
      | some vs =>
        simp only [Option.bind_some]
        cases opQ o p vs with
        | none => rfl
        | some r => simp only [Option.bind_some]; split <;> rfl
    · simp only [lookSs_agree ha']
  | ix d k s i =>
    simp only [foot, Option.some.injEq] at hf
    have ha' : Agree env env2 (srcsN env [s, i]) := by rw [← hf] at ha; exact ha
    simp only [srcsN, List.append_nil] at ha'
    have h1 := lookS_agree ha'.right
    have h2 := lookS_agree ha'.left
    have h3 := owner_agree ha'.left
    refine still d (fun E => (lookS E i).bind fun iv => match iv with
      | .i _ j => if 0 ≤ j then (lookS E s).bind fun sv => match sv with
        | .l es => (es[j.toNat]?).bind fun e => if e.cells.length = k then
            (match owner E s with
            | some m => if m = d then none else some (.pe m j.toNat 0 k)
            | none => some (.r e.cells))
          else none
        | _ => none
        else none
      | _ => none) _ (fun E => ?_) ?_ hst (by rw [← hf])
    · simp only [stepS]
      cases lookS E i with
      | none => rfl
      | some iv =>
        simp only [Option.bind_some]
        cases iv <;> first | rfl | skip
        simp only
        split
        · cases lookS E s with
          | none => rfl
          | some sv =>
            simp only [Option.bind_some]
            cases sv <;> first | rfl | skip
            rename_i j _ es
            simp only
            cases es[j.toNat]? with
            | none => rfl
            | some ee =>
              simp only [Option.bind_some]
              split
              · cases owner E s with
                | none => rfl
                | some m => simp only; split <;> rfl
              · rfl
        · rfl
    · simp only [h1, h2, h3]
  | fa d off n s =>
    simp only [foot, Option.some.injEq] at hf
    have ha' : Agree env env2 (srcN env s) := by rw [← hf] at ha; exact ha
    cases s with
    | c v => simp only [stepS] at hst; cases hst
    | t s =>
      have hs1 := ha' s (slotN_self s)
      have hs2' : ∀ m, nm env s = some m → get m env2 = get m env := fun m hm => ha' m (slotN_nm hm)
      refine still d (fun E => (get s E).bind fun x => match x with
        | .bx cs => if s ≠ d ∧ off + n ≤ cs.length then some (.pb s off n) else none
        | .al m => (get m E).bind fun y => match y with
          | .bx cs => if m ≠ d ∧ off + n ≤ cs.length then some (.pb m off n) else none
          | _ => none
        | .pe m i a sz => if m ≠ d ∧ off + n ≤ sz then some (.pe m i (a + off) n) else none
        | .pb m a sz => if m ≠ d ∧ off + n ≤ sz then some (.pb m (a + off) n) else none
        | .r cs => (sub cs off n).bind fun r => some (.r r)
        | _ => none) _ (fun E => ?_) ?_ hst (by rw [← hf])
      · simp only [stepS]
        cases get s E with
        | none => rfl
        | some x =>
          simp only [Option.bind_some]
          cases x <;> first
            | rfl
            | (simp only; split <;> rfl)
            | skip
          · rename_i cs
            simp only
            cases sub cs off n <;> rfl
          · rename_i m
            simp only
            cases get m E with
            | none => rfl
            | some y =>
              simp only [Option.bind_some]
              cases y <;> first | rfl | (simp only; split <;> rfl)
      · simp only [hs1]
        cases hx : get s env with
        | none => rfl
        | some x =>
          simp only [Option.bind_some]
          cases x <;> first | rfl | skip
          rename_i m
          simp only
          rw [hs2' m (by simp [nm, hx, V.names])]
  | sto sz s v =>
    cases s with
    | c _ => simp [stepS] at hst
    | t s => exact loc_sto hs2 hst hf ha hw
  | app d e1 k b s y =>
    cases s with
    | c v =>
      simp only [foot, Option.some.injEq] at hf
      have ha' : Agree env env2 (srcN env y) := by rw [← hf] at ha; exact ha
      have h1 := lookS_agree ha'
      refine still d (fun E => (lookS E y).bind fun yv => match yv with
        | .l ys => if ys.all (fun x => x.cells.length == k) then (match v with
          | .ow e' [] => if e' = e1 ∧ ys.length * b ≤ 140737488355328 then some (.ow e1 ys) else none
          | _ => none) else none
        | _ => none) _ (fun E => ?_) ?_ hst (by rw [← hf])
      · simp only [stepS]
        cases lookS E y with
        | none => rfl
        | some yv =>
          simp only [Option.bind_some]
          cases yv <;> first | rfl | skip
          simp only
          split
          · cases v <;> first | rfl | skip
            rename_i e' es
            cases es <;> first | rfl | skip
            simp only
            split <;> rfl
          · rfl
      · simp only [h1]
    | t n => exact loc_app hs hs2 hst hf ha hw hc hc2
  | call d g xs => exact call d xs (o g) _ (fun E => by simp only [stepS]) hst (by simpa only [foot] using hf)
  | callv d xs => exact call d xs (callV o) _ (fun E => by simp only [stepS]) hst (by simpa only [foot] using hf)
  | ext d i n => exact loc_ext hs hs2 hst hf ha hw hc2
  | bld d z ps xs => exact frz d xs (fun vs => (bldV z ps vs).map .a) _ (fun E => by
      simp only [stepS]
      cases lookSs E xs with
      | none => rfl
      | some vs => simp only [Option.bind_some]; cases bldV z ps vs <;> rfl) hst (by simpa only [foot] using hf)
  | bsl d e1 k xs => exact frz d xs (fun vs => if vs.all (fun x => x.cells.length == k && x.cells.all V.cell) then some (.ow e1 vs) else none) _ (fun E => by
      simp only [stepS]
      cases lookSs E xs with
      | none => rfl
      | some vs => simp only [Option.bind_some]; split <;> rfl) hst (by simpa only [foot] using hf)
  | box d s =>
    simp only [foot] at hf
    split at hf
    · rename_i hno
      simp only [Option.some.injEq] at hf
      have ha' : Agree env env2 (srcN env s) := by rw [← hf] at ha; exact ha
      have hno2 : noOwn env2 [s] = true := (noOwn_agree ha'.ones).trans hno
      have h1 := lookS_agree ha'
      have key : ∀ E, noOwn E [s] = true → stepS o E (.box d s) = (lookS E s).bind fun v => (if v.cells.all V.cell then some (V.bx v.cells) else none).bind fun r => some (put' d r E) := by
        intro E hE
        simp only [stepS, freeze_noOwn hE]
        cases lookS E s with
        | none => rfl
        | some v => simp only [Option.bind_some]; split <;> rfl
      have e1 := key env hno
      have e2 := key env2 hno2
      rw [hst] at e1
      rw [h1] at e2
      cases hv : lookS env s with
      | none => rw [hv] at e1; cases e1
      | some v =>
        rw [hv] at e1 e2
        simp only [Option.bind_some] at e1 e2
        split at e1
        · rename_i hall
          rw [if_pos hall] at e2
          simp only [Option.bind_some, Option.some.injEq] at e1 e2
          have hf2 : f.2 = [d] := by rw [← hf]
          rw [hf2] at hc2 ⊢
          exact loc_put hs hs2 hc2 e1 e2
        · cases e1
    · cases hf
  | alo d z =>
    simp only [foot, Option.some.injEq] at hf
    exact still d (fun _ => some (.bx z)) _ (fun E => by simp only [stepS, Option.bind_some]) rfl hst (by rw [← hf])
  | mkf d fn n xs => exact frz d xs (fun vs => some (.f fn (vs.take n) (vs.drop n))) _ (fun E => by simp only [stepS, Option.bind_some]) hst (by simpa only [foot] using hf)
  | slc d k lo hi xs => exact frz d xs (opQ o (.slc k lo hi)) _ (fun E => by simp only [stepS]) hst (by simpa only [foot] using hf)
  | mks d e1 b z n =>
    simp only [foot, Option.some.injEq] at hf
    have ha' : Agree env env2 (srcN env n) := by rw [← hf] at ha; exact ha
    have h1 := lookS_agree ha'
    refine still d (fun E => (lookS E n).bind fun v => match v with
      | .i .i64 j => if 0 ≤ j ∧ j * b ≤ 140737488355328 then some (.ow e1 (List.replicate j.toNat z)) else none
      | _ => none) _ (fun E => ?_) (by simp only [h1]) hst (by rw [← hf])
    simp only [stepS]
    cases lookS E n with
    | none => rfl
    | some v =>
      simp only [Option.bind_some]
      cases v <;> first | rfl | skip
      rename_i kk j
      cases kk <;> first | rfl | (simp only; split <;> rfl)
  | mkm d => simp [foot] at hf
  | cpy d e k s y => simp [foot] at hf
  | callm d f mu s xs =>
    cases d with
    | none => simp [foot] at hf
    | some d =>
      cases s with
      | c v => simp [foot] at hf
      | t n => exact loc_callm hs hs2 hst hf ha hw hc hc2
  | mget d kt z s k =>
    cases s with
    | c v => simp [foot] at hf
    | t n =>
      simp only [foot, Option.some.injEq] at hf
      have ha' : Agree env env2 (slotN env n ++ srcN env k) := by rw [← hf] at ha; exact ha
      have h1 := lookS_agree ha'.right
      have h2 := mapOf_agree ha'.left
      refine still d (fun E => (lookS E k).bind fun kv => (mapOf E n).bind fun p => if (keyB kt kv && p.2.1.all (keyB kt) && ((mfind kv p.2.1 p.2.2).getD z).cell && ((mfind kv p.2.1 p.2.2).getD z).uniq) = true then some ((mfind kv p.2.1 p.2.2).getD z) else none) _ (fun E => ?_) (by simp only [h1, h2]) hst (by rw [← hf])
      simp only [stepS]
      cases lookS E k with
      | none => rfl
      | some v =>
        simp only [Option.bind_some]
        cases mapOf E n with
        | none => rfl
        | some p => simp only [Option.bind_some]; split <;> rfl
  | mset kt s k v =>
    cases s with
    | c v => simp [foot] at hf
    | t n => exact loc_mset hs2 hst hf ha hw
  | s2b d e1 s =>
    simp only [foot, Option.some.injEq] at hf
    have ha' : Agree env env2 (srcN env s) := by rw [← hf] at ha; exact ha
    have h1 := lookS_agree ha'
    refine still d (fun E => (lookS E s).bind fun v => match v with
      | .s x => some (.l (x.map fun c => .i .u8 c.toNat))
      | _ => none) _ (fun E => ?_) (by simp only [h1]) hst (by rw [← hf])
    simp only [stepS]
    cases lookS E s with
    | none => rfl
    | some v =>
      simp only [Option.bind_some]
      cases v <;> rfl
end
end Go.VM
/-
  A region in mode S that draws its order. No program is named here.
-/
namespace Go.VM
open Go.RowKit
variable [Glob]

section
variable {o : Orc} {env env2 : Env}

theorem nil_of_get {env : Env} (h : ∀ n, get n env = none) : env = [] := by
  cases env with
  | nil => rfl
  | cons p r => have := h p.1; simp [get] at this
theorem env_ext : ∀ {env env2 : Env}, Srt env → Srt env2 → (∀ n, get n env = get n env2) → env = env2
  | [], env2, _, _, h => (nil_of_get fun n => (h n).symm.trans rfl).symm
  | p :: r, [], _, _, h => by have := h p.1; simp [get] at this
  | (n, x) :: r, (m, y) :: q, h1, h2, h => by
    obtain ⟨a1, a2⟩ := List.pairwise_cons.1 h1
    obtain ⟨b1, b2⟩ := List.pairwise_cons.1 h2
    have hn : ∀ {r : Env} {n : Nat}, (∀ p ∈ r, n < p.1) → ∀ k, k ≤ n → get k r = none := by
      intro r n hr k hk
      cases hq : get k r with
      | none => rfl
      | some z => have := hr _ (get_mem hq); simp at this; omega
    have hnm : n = m := by
      have e1 := h n
      have e2 := h m
      simp only [get, if_true] at e1 e2
      by_cases hnm : n = m
      · exact hnm
      · rw [if_neg hnm] at e1
        rw [if_neg (Ne.symm hnm)] at e2
        have g1 := b1 _ (get_mem e1.symm)
        have g2 := a1 _ (get_mem e2)
        simp at g1 g2
        omega
    subst hnm
    have hx := h n
    simp only [get, if_true, Option.some.injEq] at hx
    subst hx
    congr 1
    refine env_ext a2 b2 fun k => ?_
    by_cases hk : k = n
    · subst hk; rw [hn a1 k (Nat.le_refl _), hn b1 k (Nat.le_refl _)]
    · have := h k
      simpa only [get, if_neg hk] using this

def LocG (o : Orc) (s : GSt) (e : Env) (W : List Nat) (env2 : Env) : Prop := ∃ e2, stepG o env2 s = some e2 ∧ Srt e2 ∧ (∀ n ∈ W, get n e2 = get n e) ∧ ∀ n, n ∉ W → get n e2 = get n env2
theorem LocG.as {s : GSt} {st : St} {e : Env} {W : List Nat} (h : stepG o env2 s = stepS o env2 st) (hl : Loc o st e W env2) : LocG o s e W env2 := by
  obtain ⟨e2, h1, h2⟩ := hl
  exact ⟨e2, h.trans h1, h2⟩
theorem locG (hs : Srt env) (hs2 : Srt env2) {s : GSt} {e : Env} (hst : stepG o env s = some e) {f : List Nat × List Nat} (hf : footG o env s = some f) (ha : Agree env env2 f.1) (hw : Agree env env2 f.2) (hc : NC env f.2) (hc2 : NC env2 f.2) : LocG o s e f.2 env2 := by
  cases s with
  | s st => exact LocG.as rfl (loc hs hs2 hst hf ha hw hc hc2)
  | gd c t d st =>
    simp only [stepG, Option.bind_eq_some_iff] at hst
    obtain ⟨v, hv, hst⟩ := hst
    simp only [footG, hv, Option.bind_some] at hf
    cases v <;> first | (cases hst; done) | skip
    rename_i u
    simp only at hst hf
    by_cases hut : u = t
    · rw [if_pos hut] at hst hf
      simp only [Option.map_eq_some_iff] at hf
      obtain ⟨g, hg, rfl⟩ := hf
      have h2 : look env2 c = some (.b u) := (look_agree (Agree.left ha)).trans hv
      refine LocG.as ?_ (loc (f := g) hs hs2 hst hg (Agree.right ha) hw hc hc2)
      simp [stepG, h2, hut]
    · rw [if_neg hut] at hst hf
      simp only [Option.some.injEq] at hst hf
      subst hf
      have h2 : look env2 c = some (.b u) := (look_agree ha).trans hv
      have h3 : stepG o env2 (.gd c t d st) = some (putO d .ud env2) := by simp [stepG, h2, hut]
      cases d with
      | none =>
        simp only [putO] at hst h3
        subst hst
        exact ⟨_, h3, hs2, fun n hn => by simp at hn, fun n _ => rfl⟩
      | some d => exact LocG.as (h3.trans rfl) (loc_put (s := .mv d (.c .ud)) hs hs2 hc2 hst.symm rfl)
  | pick d c a b =>
    simp only [stepG, Option.bind_eq_some_iff] at hst
    obtain ⟨v, hv, hst⟩ := hst
    simp only [footG, hv, Option.bind_some] at hf
    cases v <;> first | (cases hst; done) | skip
    rename_i u
    simp only [Option.bind_eq_some_iff] at hst
    obtain ⟨r, hr, hst⟩ := hst
    simp only [Option.some.injEq] at hf
    subst hf
    split at hst
    · rename_i hfl
      simp only [Option.some.injEq] at hst
      have h2 : look env2 c = some (.b u) := (look_agree (Agree.left ha)).trans hv
      have h4 : (if u = true then lookS env2 a else lookS env2 b) = some r := by
        rw [← hr]
        have := lookS_agree (Agree.right ha)
        cases u <;> simpa using this
      refine LocG.as ?_ (loc_put (s := .mv d (.c r)) hs hs2 hc2 hst.symm rfl)
      simp [stepG, h2, h4, hfl, stepS]
    · cases hst

structure Rec (o : Orc) (s : GSt) (env e : Env) (f : List Nat × List Nat) : Prop where
  step : stepG o env s = some e
  srt : Srt e
  same : ∀ n, n ∉ f.2 → get n e = get n env
  new : ∀ n ∈ f.2, ∀ m, nm e n = some m → m ∈ f.1 ∨ m ∈ f.2
  old : ∀ n ∈ f.2, ∀ m, nm env n = some m → m ∈ f.1 ∨ m ∈ f.2
  nc : NC env f.2
  loc : ∀ env2, Srt env2 → Agree env env2 f.1 → Agree env env2 f.2 → NC env2 f.2 → LocG o s e f.2 env2

theorem rec_of (hs : Srt env) {s : GSt} {e : Env} (hst : stepG o env s = some e) {f : List Nat × List Nat} (hf : footG o env s = some f) (hr : recB env e f = true) : Rec o s env e f := by
  simp only [recB, Bool.and_eq_true] at hr
  obtain ⟨h1, h2, h3⟩ := hr
  have hmem : ∀ (E : Env), f.2.all (fun n => match (get n E).bind V.names with | some m => f.1.contains m || f.2.contains m | none => true) = true → ∀ n ∈ f.2, ∀ m, nm E n = some m → m ∈ f.1 ∨ m ∈ f.2 := by
    intro E hE n hn m hm
    have := List.all_eq_true.1 hE n hn
    unfold nm at hm
    rw [hm] at this
    simpa using this
  have hnc : NC env f.2 := by
    intro n m hm hn
    unfold nm at hn
    cases hq : get n env with
    | none => rw [hq] at hn; cases hn
    | some x =>
      rw [hq] at hn
      simp only [Option.bind_some] at hn
      have := List.all_eq_true.1 h3 (n, x) (get_mem hq)
      simp only [hn] at this
      simpa [hm] using this
  have hloc : ∀ env2, Srt env2 → Agree env env2 f.1 → Agree env env2 f.2 → NC env2 f.2 → LocG o s e f.2 env2 := fun env2 g1 g2 g3 g4 => locG hs g1 hst hf g2 g3 hnc g4
  obtain ⟨e2, k1, k2, _, k4⟩ := hloc env hs (fun _ _ => rfl) (fun _ _ => rfl) hnc
  rw [hst] at k1
  cases k1
  exact ⟨hst, k2, k4, hmem e h2, hmem env h1, hnc, hloc⟩

def Apart (f g : List Nat × List Nat) : Prop := (∀ n ∈ f.2, n ∉ g.1 ∧ n ∉ g.2) ∧ ∀ n ∈ g.2, n ∉ f.1
theorem apart_of {f g : List Nat × List Nat} (h : disj f g = true) : Apart f g := by
  simp only [disj, Bool.and_eq_true] at h
  refine ⟨fun n hn => ?_, fun n hn => ?_⟩
  · have := List.all_eq_true.1 h.1 n hn
    simpa using this
  · have := List.all_eq_true.1 h.2 n hn
    simpa using this

theorem swap (hs : Srt env) {s1 s2 : GSt} {e1 e2 : Env} {f1 f2 : List Nat × List Nat} (r1 : Rec o s1 env e1 f1) (r2 : Rec o s2 e1 e2 f2) (ha : Apart f1 f2) : ∃ e, Rec o s2 env e f2 ∧ Rec o s1 e e2 f1 := by
  have w12 : ∀ n, n ∈ f2.1 ∨ n ∈ f2.2 → n ∉ f1.2 := fun n hn h => by
    rcases hn with hn | hn
    · exact (ha.1 n h).1 hn
    · exact (ha.1 n h).2 hn
  have w21 : ∀ n, n ∈ f1.1 ∨ n ∈ f1.2 → n ∉ f2.2 := fun n hn h => by
    rcases hn with hn | hn
    · exact ha.2 n h hn
    · exact (ha.1 n hn).2 h
  have hnc2 : NC env f2.2 := by
    intro n m hm hn
    by_cases h1 : n ∈ f1.2
    · have := r1.old n h1 m hn
      exact absurd hm (w21 m this)
    · refine r2.nc n m hm ?_
      unfold nm at hn ⊢
      rw [r1.same n h1]; exact hn
  obtain ⟨e, k1, k2, k3, k4⟩ := r2.loc env hs (fun n hn => (r1.same n (w12 n (.inl hn))).symm) (fun n hn => (r1.same n (w12 n (.inr hn))).symm) hnc2
  have hnc1 : NC e f1.2 := by
    intro n m hm hn
    by_cases h2 : n ∈ f2.2
    · have h3 : nm e2 n = some m := by unfold nm at hn ⊢; rw [← k3 n h2]; exact hn
      exact absurd hm (w12 m (r2.new n h2 m h3))
    · refine r1.nc n m hm ?_
      unfold nm at hn ⊢
      rw [← k4 n h2]; exact hn
  obtain ⟨e', g1, g2, g3, g4⟩ := r1.loc e k2 (fun n hn => k4 n (w21 n (.inl hn))) (fun n hn => k4 n (w21 n (.inr hn))) hnc1
  have he : e' = e2 := by
    refine env_ext g2 r2.srt fun n => ?_
    by_cases h1 : n ∈ f1.2
    · rw [g3 n h1, r2.same n (w21 n (.inr h1))]
    · rw [g4 n h1]
      by_cases h2 : n ∈ f2.2
      · rw [k3 n h2]
      · rw [k4 n h2, r2.same n h2, r1.same n h1]
  subst he
  refine ⟨e, ⟨k1, k2, k4, fun n hn m hm => ?_, fun n hn m hm => ?_, hnc2, fun env2 q1 q2 q3 q4 => ?_⟩, ⟨g1, g2, g4, fun n hn m hm => ?_, fun n hn m hm => ?_, hnc1, fun env2 q1 q2 q3 q4 => ?_⟩⟩
  · refine r2.new n hn m ?_
    unfold nm at hm ⊢; rw [← k3 n hn]; exact hm
  · refine r2.old n hn m ?_
    unfold nm at hm ⊢; rw [r1.same n (w12 n (.inr hn))]; exact hm
  · obtain ⟨x, h1, h2, h3, h4⟩ := r2.loc env2 q1 (fun n hn => (q2 n hn).trans (r1.same n (w12 n (.inl hn))).symm) (fun n hn => (q3 n hn).trans (r1.same n (w12 n (.inr hn))).symm) q4
    exact ⟨x, h1, h2, fun n hn => (h3 n hn).trans (k3 n hn).symm, h4⟩
  · refine r1.new n hn m ?_
    unfold nm at hm ⊢; rw [← g3 n hn]; exact hm
  · refine r1.old n hn m ?_
    unfold nm at hm ⊢; rw [← k4 n (w21 n (.inr hn))]; exact hm
  · obtain ⟨x, h1, h2, h3, h4⟩ := r1.loc env2 q1 (fun n hn => (q2 n hn).trans (k4 n (w21 n (.inl hn)))) (fun n hn => (q3 n hn).trans (k4 n (w21 n (.inr hn)))) q4
    exact ⟨x, h1, h2, fun n hn => (h3 n hn).trans (g3 n hn).symm, h4⟩

abbrev Item := Nat × GSt × (List Nat × List Nat)
def Runs (o : Orc) : List Item → Env → Env → Prop
  | [], env, e => env = e
  | x :: r, env, e => ∃ e1, Rec o x.2.1 env e1 x.2.2 ∧ Runs o r e1 e
theorem bubble {x : Item} {e : Env} : ∀ {l r : List Item} {env : Env}, Srt env → Runs o (l ++ x :: r) env e → (∀ y ∈ l, Apart y.2.2 x.2.2) → ∃ e1, Rec o x.2.1 env e1 x.2.2 ∧ Runs o (l ++ r) e1 e
  | [], r, env, _, h, _ => h
  | y :: l, r, env, hs, h, ha => by
    obtain ⟨e1, h1, h2⟩ := h
    obtain ⟨e2, h3, h4⟩ := bubble h1.srt h2 fun z hz => ha z (List.mem_cons_of_mem _ hz)
    obtain ⟨e3, h5, h6⟩ := swap hs h1 h3 (ha y (List.mem_cons_self ..))
    exact ⟨e3, h5, e2, h6, h4⟩

def items : Nat → List GSt → List (List Nat × List Nat) → List Item
  | i, s :: ss, f :: fs => (i, s, f) :: items (i + 1) ss fs
  | _, _, _ => []
theorem runs_of : ∀ {ss : List GSt} {env e : Env} {fs : List (List Nat × List Nat)} (i : Nat), Srt env → runFG o ss env = some (e, fs) → Runs o (items i ss fs) env e ∧ fs.length = ss.length
  | [], env, e, fs, i, _, h => by
    simp only [runFG, Option.some.injEq, Prod.mk.injEq] at h
    obtain ⟨rfl, rfl⟩ := h
    exact ⟨rfl, rfl⟩
  | s :: ss, env, e, fs, i, hs, h => by
    simp only [runFG, Option.bind_eq_some_iff] at h
    obtain ⟨e1, h1, f, h2, h3⟩ := h
    split at h3
    · rename_i hr
      simp only [Option.bind_eq_some_iff, Option.some.injEq, Prod.mk.injEq] at h3
      obtain ⟨⟨e', fs'⟩, h4, rfl, rfl⟩ := h3
      have hrec := rec_of hs h1 h2 hr
      obtain ⟨h5, h6⟩ := runs_of (i + 1) hrec.srt h4
      exact ⟨⟨e1, hrec, h5⟩, by simp [h6]⟩
    · cases h3
theorem mem_items : ∀ {ss : List GSt} {fs : List (List Nat × List Nat)} {i : Nat} {x : Item}, x ∈ items i ss fs → i ≤ x.1 ∧ ss[x.1 - i]? = some x.2.1
  | [], fs, i, x, h => by cases fs <;> simp [items] at h
  | s :: ss, [], i, x, h => by simp [items] at h
  | s :: ss, f :: fs, i, x, h => by
    simp only [items] at h
    rcases List.mem_cons.1 h with rfl | h
    · exact ⟨Nat.le_refl _, by simp⟩
    · obtain ⟨h1, h2⟩ := mem_items h
      refine ⟨by omega, ?_⟩
      rw [show x.1 - i = (x.1 - (i + 1)) + 1 from by omega, List.getElem?_cons_succ]
      exact h2
theorem items_all : ∀ {ss : List GSt} {fs : List (List Nat × List Nat)} {i : Nat}, fs.length = ss.length → ∀ k, i ≤ k → k < i + ss.length → ∃ x ∈ items i ss fs, x.1 = k
  | [], fs, i, _, k, h1, h2 => by simp at h2; omega
  | s :: ss, [], i, h, _, _, _ => by simp at h
  | s :: ss, f :: fs, i, h, k, h1, h2 => by
    simp only [items]
    by_cases hk : k = i
    · exact ⟨_, List.mem_cons_self .., hk.symm⟩
    · obtain ⟨x, hx, hxk⟩ := items_all (ss := ss) (fs := fs) (i := i + 1) (by simpa using h) k (by omega) (by simp at h2; omega)
      exact ⟨x, List.mem_cons_of_mem _ hx, hxk⟩
def Sep (af : List (List Nat)) (x y : Item) : Prop := x.1 < y.1 ∧ ∀ a, af[y.1]? = some a → x.1 ∈ a ∨ Apart x.2.2 y.2.2
theorem indep1_spec {AF : List (List Nat)} {f : List Nat × List Nat} {i : Nat} : ∀ {ss : List GSt} {as : List (List Nat)} {fs : List (List Nat × List Nat)} {k : Nat}, AF.drop k = as → indep1 f i as fs = true → ∀ x ∈ items k ss fs, ∀ a, AF[x.1]? = some a → i ∈ a ∨ Apart f x.2.2
  | [], as, fs, k, _, _, x, hx, _, _ => by cases fs <;> simp [items] at hx
  | s :: ss, as, [], k, _, _, x, hx, _, _ => by simp [items] at hx
  | s :: ss, as, g :: fs, k, hd, h, x, hx, a, ha => by
    simp only [items] at hx
    rcases List.mem_cons.1 hx with rfl | hx
    · simp only at ha
      have : as[0]? = some a := by rw [← hd, List.getElem?_drop]; simpa using ha
      cases as with
      | nil => simp at this
      | cons a' as =>
        simp at this
        subst this
        simp only [indep1, Bool.and_eq_true, Bool.or_eq_true] at h
        rcases h.1 with h | h
        · exact .inl (by simpa using h)
        · exact .inr (apart_of h)
    · cases as with
      | nil =>
        have h1 := mem_items hx
        have h2 := (List.getElem?_eq_some_iff.1 ha).1
        have : AF.length ≤ k := by simpa using hd
        omega
      | cons a' as =>
        simp only [indep1, Bool.and_eq_true] at h
        obtain ⟨_, hd'⟩ := drop_cons hd
        exact indep1_spec hd' h.2 x hx a ha
theorem indep_spec {AF : List (List Nat)} : ∀ {ss : List GSt} {as : List (List Nat)} {fs : List (List Nat × List Nat)} {k : Nat}, AF.drop k = as → indep k as fs = true → (items k ss fs).Pairwise (Sep AF)
  | [], as, fs, k, _, _ => by cases fs <;> simp [items]
  | s :: ss, as, [], k, _, _ => by simp [items]
  | s :: ss, as, f :: fs, k, hd, h => by
    simp only [items]
    cases as with
    | nil =>
      have hl : AF.length ≤ k := by simpa using hd
      have hpw : ∀ {ss : List GSt} {fs : List (List Nat × List Nat)} {k : Nat}, AF.length ≤ k → (items k ss fs).Pairwise (Sep AF) := by
        intro ss
        induction ss with
        | nil => intro fs k _; cases fs <;> simp [items]
        | cons s ss ih =>
          intro fs k hk
          cases fs with
          | nil => simp [items]
          | cons f fs =>
            simp only [items]
            refine List.pairwise_cons.2 ⟨fun y hy => ?_, ih (by omega)⟩
            obtain ⟨h1, _⟩ := mem_items hy
            exact ⟨h1, fun a ha => by have := (List.getElem?_eq_some_iff.1 ha).1; omega⟩
      exact hpw (ss := s :: ss) (fs := f :: fs) hl
    | cons a as =>
      simp only [indep, Bool.and_eq_true] at h
      obtain ⟨_, hd'⟩ := drop_cons hd
      refine List.pairwise_cons.2 ⟨fun y hy => ?_, indep_spec hd' h.2⟩
      obtain ⟨h1, _⟩ := mem_items hy
      exact ⟨h1, fun a ha => indep1_spec hd' h.1 y hy a ha⟩
end

section
variable {P : Program} {nt : Nat} {keep : List Nat} {S : Nat → Prop} {base : Nat} {w0 : World} {env env' : Env} {a : Act} {w : World} {o : Orc}

theorem toSts_at : ∀ {r : List Oper} {ss : List St}, toSts P r = some ss → ss.length = r.length ∧ ∀ (i : Nat) op, r[i]? = some op → ∃ s, ss[i]? = some s ∧ toSt P op = some s
  | [], ss, h => by simp only [toSts, Option.some.injEq] at h; subst h; simp
  | op :: r, ss, h => by
    simp only [toSts, Option.bind_eq_some_iff, Option.some.injEq] at h
    obtain ⟨s, hs, ss', hss', rfl⟩ := h
    obtain ⟨h1, h2⟩ := toSts_at hss'
    refine ⟨by simp [h1], fun i op' hi => ?_⟩
    cases i with
    | zero => simp at hi; subst hi; exact ⟨s, rfl, hs⟩
    | succ i => simpa using h2 i op' (by simpa using hi)

theorem closeB_keeps {L M : Nat → Prop} {af : List (List Nat)} (hLM : ∀ i, L i → M i) (h : ∀ i, M i → ∀ a, af[i]? = some a → ∀ j ∈ a, L j) : ∀ i, M i → ∀ a, (closeB af)[i]? = some a → ∀ j ∈ a, L j := by
  intro i hi a ha j hj
  unfold closeB at ha
  rw [List.getElem?_map] at ha
  obtain ⟨b, hb, rfl⟩ := Option.map_eq_some_iff.1 ha
  simp only [List.mem_filter, List.mem_range, Bool.or_eq_true, List.contains_iff_mem, List.any_eq_true] at hj
  rcases hj.2 with h1 | ⟨k, hk, hj⟩
  · exact h i hi b hb j h1
  · have hLk := h i hi b hb k hk
    cases hc : af[k]? with
    | none => rw [List.getD_eq_getElem?_getD, hc] at hj; simp at hj
    | some c =>
      rw [List.getD_eq_getElem?_getD, hc] at hj
      exact h k (hLM k hLk) c hc j hj
theorem closeA_keeps {L M : Nat → Prop} {af : List (List Nat)} (hLM : ∀ i, L i → M i) (h : ∀ i, M i → ∀ a, af[i]? = some a → ∀ j ∈ a, L j) : ∀ i, M i → ∀ a, (closeA af)[i]? = some a → ∀ j ∈ a, L j := closeB_keeps hLM (closeB_keeps hLM (closeB_keeps hLM (closeB_keeps hLM h)))
theorem swalk {opsL : List Oper} {ss : List GSt} {Q : Exit → Act → World → Prop} (hlen : ss.length = opsL.length) (hwt : ∀ (i : Nat) op s, opsL[i]? = some op → ss[i]? = some s → ∀ env e a w, FI P nt keep S base w0 env a w → stepG o env s = some e → (Region.wanted op (yielded opsL.toArray a.tmps) = true ∧ Outc P ((execOp a.eval op).run P w) fun u w1 => FI P nt keep S base w0 e (a.put op.dst u) w1) ∨ (Region.wanted op (yielded opsL.toArray a.tmps) = false ∧ FI P nt keep S base w0 e (a.put op.dst undef) w)) (hacy : ∀ (i : Nat) op, opsL.toArray[i]? = some op → ∀ j ∈ aft op, j < i) :
    ∀ (fuel : Nat) (listed : Array Bool) (rem : List Item) (env : Env) (a : Act) (w : World), listed.size = opsL.length → left1 listed ≤ fuel → (∀ x ∈ rem, ¬ Ex1 listed x.1 ∧ ss[x.1]? = some x.2.1) → (∀ i, i < opsL.length → Ex1 listed i ∨ ∃ x ∈ rem, x.1 = i) →
      (∀ i, Ex1 listed i → ∀ a, (opsL.map aft)[i]? = some a → ∀ j ∈ a, Ex1 listed j) → rem.Pairwise (Sep (closeA (opsL.map aft))) → Runs o rem env env' → FI P nt keep S base w0 env a w → (∀ a' w', FI P nt keep S base w0 env' a' w' → Q .normal a' w') → wpAny P .any opsL.toArray Q fuel listed a w := by
  have fin : ∀ (listed : Array Bool) (rem : List Item) (env : Env) (a : Act) (w : World), (∀ i, i < opsL.length → Ex1 listed i) → (∀ x ∈ rem, ¬ Ex1 listed x.1 ∧ ss[x.1]? = some x.2.1) → Runs o rem env env' → FI P nt keep S base w0 env a w → (∀ a' w', FI P nt keep S base w0 env' a' w' → Q .normal a' w') → Q .normal a w := by
    intro listed rem env a w hall hrem hrun hF hQ
    cases rem with
    | nil =>
      simp only [Runs] at hrun
      subst hrun
      exact hQ a w hF
    | cons x r =>
      obtain ⟨h1, h2⟩ := hrem x (List.mem_cons_self ..)
      have := (List.getElem?_eq_some_iff.1 h2).1
      exact absurd (hall x.1 (by omega)) h1
  intro fuel
  induction fuel with
  | zero =>
    intro listed rem env a w hs hleft hrem hcov hcl hpw hrun hF hQ
    have hall : ∀ i, i < opsL.length → Ex1 listed i := fun i hi => all_of_left (by omega) i (by omega)
    refine ⟨?_, fin listed rem env a w hall hrem hrun hF hQ⟩
    cases hr : Region.ready .any opsL.toArray listed with
    | nil => rfl
    | cons i r =>
      obtain ⟨op, hop, hne, _⟩ := mem_ready (by simpa using hs) (show i ∈ Region.ready .any opsL.toArray listed by rw [hr]; exact List.mem_cons_self ..)
      exact absurd (hall i (by have := (Array.getElem?_eq_some_iff.1 hop).1; simpa using this)) hne
  | succ fuel ih =>
    intro listed rem env a w hs hleft hrem hcov hcl hpw hrun hF hQ
    refine ⟨fun hr => fin listed rem env a w (fun i hi => not_ready (by simpa using hs) hacy hr i (by simpa using hi)) hrem hrun hF hQ, fun i hi => ?_⟩
    obtain ⟨op, hop, hne, haft⟩ := mem_ready (by simpa using hs) hi
    have hop' : opsL[i]? = some op := by simpa using hop
    have hil : i < opsL.length := (List.getElem?_eq_some_iff.1 hop').1
    have his : i < listed.size := by omega
    obtain ⟨x, hx, hxi⟩ := (hcov i hil).resolve_left hne
    obtain ⟨l, r, rfl⟩ := List.append_of_mem hx
    obtain ⟨hpl, hpxr, hpc⟩ := List.pairwise_append.1 hpw
    have hap : ∀ y ∈ l, Apart y.2.2 x.2.2 := by
      intro y hy
      have hsep := hpc y hy x (List.mem_cons_self ..)
      have hlen' : (closeA (opsL.map aft)).length = opsL.length := by simp [closeA, closeB]
      have haf : (closeA (opsL.map aft))[x.1]? = some ((closeA (opsL.map aft))[x.1]'(by omega)) := List.getElem?_eq_getElem _
      rcases hsep.2 _ haf with h | h
      · refine absurd (closeA_keeps (L := Ex1 listed) (M := fun k => Ex1 listed k ∨ k = i) (fun _ => .inl) (fun k hk b hb j hj => ?_) x.1 (.inr hxi) _ haf _ h) (hrem y (List.mem_append_left _ hy)).1
        rcases hk with hk | rfl
        · exact hcl k hk b hb j hj
        · rw [List.getElem?_map, hop'] at hb
          simp only [Option.map_some, Option.some.injEq] at hb
          subst hb
          exact haft j hj
      · exact h
    obtain ⟨e1, hrec, hrun'⟩ := bubble hF.srt hrun hap
    have hsi : ss[i]? = some x.2.1 := by
      have h2 := (hrem x hx).2
      rwa [hxi] at h2
    have hout0 := hwt i op x.2.1 hop' hsi env e1 a w hF hrec.step
    have hxl : ∀ y, y ∈ l ++ r → y.1 ≠ i := by
      intro y hy
      rcases List.mem_append.1 hy with hy | hy
      · have := (hpc y hy x (List.mem_cons_self ..)).1; omega
      · have := ((List.pairwise_cons.1 hpxr).1 y hy).1; omega
    have next : ∀ u w1, FI P nt keep S base w0 e1 (a.put op.dst u) w1 → wpAny P .any opsL.toArray Q fuel (listed.setIfInBounds i true) (a.put op.dst u) w1 := by
      intro u w1 h
      refine ih _ (l ++ r) e1 _ w1 (by simpa using hs) ?_ (fun y hy => ?_) (fun j hj => ?_) (fun k hk b hb j hj => ?_) ?_ hrun' h hQ
      · have := left1_set his hne; omega
      · have hy' : y ∈ l ++ x :: r := by
          rcases List.mem_append.1 hy with h | h
          · exact List.mem_append_left _ h
          · exact List.mem_append_right _ (List.mem_cons_of_mem _ h)
        obtain ⟨h1, h2⟩ := hrem y hy'
        refine ⟨fun h => ?_, h2⟩
        rcases (ex1_set his _).1 h with h | h
        · exact hxl y hy h
        · exact h1 h
      · rcases hcov j hj with h | ⟨y, hy, hyj⟩
        · exact .inl ((ex1_set his j).2 (.inr h))
        · by_cases hji : j = i
          · exact .inl ((ex1_set his j).2 (.inl hji))
          · right
            refine ⟨y, ?_, hyj⟩
            rcases List.mem_append.1 hy with h | h
            · exact List.mem_append_left _ h
            · rcases List.mem_cons.1 h with rfl | h
              · exact absurd (hyj.symm.trans hxi) hji
              · exact List.mem_append_right _ h
      · refine (ex1_set his j).2 (.inr ?_)
        rcases (ex1_set his k).1 hk with rfl | hk
        · rw [List.getElem?_map, hop'] at hb
          simp only [Option.map_some, Option.some.injEq] at hb
          subst hb
          exact haft j hj
        · exact hcl k hk b hb j hj
      · refine List.pairwise_append.2 ⟨hpl, (List.pairwise_cons.1 hpxr).2, fun y hy z hz => hpc y hy z (List.mem_cons_of_mem _ hz)⟩
    unfold wpOp
    rw [hop]
    simp only
    rcases hout0 with ⟨hw, hout⟩ | ⟨hw, hF1⟩
    · rw [if_pos hw]
      left
      refine Outc.wp ?_
      revert hout
      generalize (execOp a.eval op).run P w = res
      intro hout
      unfold Outc at hout ⊢
      split at hout
      · exact next _ _ hout
      · exact next _ _ hout
      · exact hout.mono fun e w1 ⟨u, he, h⟩ => ⟨u, he, next _ _ h⟩
      · exact hout.elim
    · rw [if_neg (by simp [hw])]
      exact next _ _ hF1

theorem regAny (hm : P.follows .mixedOrders = true) {id : Nat} {ops : Array Oper} {ss : List GSt} (hlen : ss.length = ops.toList.length) (hst : drawG o ss (closeA (ops.toList.map aft)) env = some env') (hwt : ∀ (i : Nat) op s, ops.toList[i]? = some op → ss[i]? = some s → ∀ env e a w, FI P nt (keep ++ (ops.toList.flatMap fun o => o.dst.toList)) S base w0 env a w → stepG o env s = some e → (Region.wanted op (yielded ops a.tmps) = true ∧ Outc P ((execOp a.eval op).run P w) fun u w1 => FI P nt (keep ++ (ops.toList.flatMap fun o => o.dst.toList)) S base w0 e (a.put op.dst u) w1) ∨ (Region.wanted op (yielded ops a.tmps) = false ∧ FI P nt (keep ++ (ops.toList.flatMap fun o => o.dst.toList)) S base w0 e (a.put op.dst undef) w))
    (hacy : ((List.range ops.size).all fun i => match ops[i]? with | some o => (aft o).all fun j => decide (j < i) | none => false) = true)
    (hF : FI P nt keep S base w0 env a w) {Q : Exit → Act → World → Prop} (hQ : ∀ a' w', FI P nt keep S base w0 (dropE ((ops.toList.flatMap fun o => o.dst.toList).filter fun t => !keep.contains t) env') a' w' → Q .normal a' w') :
    (Code.region id ops true).wp P Q a w := by
  refine wp_region_any hm ?_
  have hF1 := hF.keys_mono (keep' := keep ++ (ops.toList.flatMap fun o => o.dst.toList)) fun n hn => List.mem_append_left _ hn
  have hb0 : Below w.heap.size w { w with drawn := w.drawn + 1 } := ⟨rfl, rfl, rfl, Nat.le_refl _, fun _ _ => rfl⟩
  have hF' := hF1.grow hb0
  unfold drawG at hst
  simp only [Option.bind_eq_some_iff] at hst
  obtain ⟨⟨e, fs⟩, h1, h2⟩ := hst
  split at h2
  · rename_i hind
    simp only [Option.some.injEq] at h2
    subst h2
    obtain ⟨hruns, hfl⟩ := runs_of 0 hF.srt h1
    have hn1 : ∀ k, ¬ Ex1 (Array.replicate ops.size false) k := fun k hk => by
      unfold Ex1 at hk
      simp only [Array.getD_eq_getD_getElem?, Array.getElem?_replicate] at hk
      split at hk <;> simp at hk
    have hleft : left1 (Array.replicate ops.size false) ≤ ops.size := by
      unfold left1
      exact Nat.le_trans (List.countP_le_length ..) (by simp)
    have := swalk (Q := Q) (opsL := ops.toList) hlen hwt (fun i op hop j hj => by
        have hop' : ops[i]? = some op := by simpa using hop
        have := List.all_eq_true.1 hacy i (List.mem_range.2 (Array.getElem?_eq_some_iff.1 hop').1)
        rw [hop'] at this
        simpa using List.all_eq_true.1 this j hj) ops.size (Array.replicate ops.size false) (items 0 ss fs) env a { w with drawn := w.drawn + 1 } (by simp) hleft
      (fun x hx => ⟨hn1 _, by simpa using (mem_items hx).2⟩) (fun i hi => .inr (items_all hfl i (Nat.zero_le _) (by omega)))
      (fun k hk => absurd hk (hn1 k)) (indep_spec (AF := closeA (ops.toList.map aft)) (by simp) hind) hruns hF' (fun a' w' h => hQ a' w' (h.dropE _ fun n hn hd => by
        by_cases hk : n ∈ keep
        · exact hk
        · rcases List.mem_append.1 hn with h | h
          · exact h
          · exact absurd (List.mem_filter.2 ⟨h, by simp [hk]⟩) hd))
    simpa using this
  · cases h2
theorem toGs_at {opsL : List Oper} : ∀ {r : List Oper} {ss : List GSt}, toGs P opsL r = some ss → ss.length = r.length ∧ ∀ (i : Nat) op, r[i]? = some op → ∃ s, ss[i]? = some s ∧ toG P opsL op = some s
  | [], ss, h => by simp only [toGs, Option.some.injEq] at h; subst h; simp
  | op :: r, ss, h => by
    simp only [toGs, Option.bind_eq_some_iff, Option.some.injEq] at h
    obtain ⟨s, hs, ss', hss', rfl⟩ := h
    obtain ⟨h1, h2⟩ := toGs_at hss'
    refine ⟨by simp [h1], fun i op' hi => ?_⟩
    cases i with
    | zero => simp at hi; subst hi; exact ⟨s, rfl, hs⟩
    | succ i => simpa using h2 i op' (by simpa using hi)
theorem stepG_sound (ho : SoundO P o) {opsL : List Oper} {op : Oper} {s : GSt} {e : Env} (hs : toG P opsL op = some s) (hkd : ∀ d, op.dst = some d → d ∈ keep ∧ d < nt) (hF : FI P nt keep S base w0 env a w) (h1 : stepG o env s = some e) :
    (Region.wanted op (yielded opsL.toArray a.tmps) = true ∧ Outc P ((execOp a.eval op).run P w) fun u w1 => FI P nt keep S base w0 e (a.put op.dst u) w1) ∨ (Region.wanted op (yielded opsL.toArray a.tmps) = false ∧ FI P nt keep S base w0 e (a.put op.dst undef) w) := by
  unfold toG at hs
  split at hs
  · rename_i g hgd
    simp only [Option.bind_eq_some_iff, Option.map_eq_some_iff] at hs
    obtain ⟨p, hp, st, hst', rfl⟩ := hs
    unfold guardT at hp
    simp only [Option.map_eq_some_iff, Option.bind_eq_some_iff] at hp
    obtain ⟨d, ⟨og, hog, hd⟩, rfl⟩ := hp
    simp only [stepG, Option.bind_eq_some_iff] at h1
    obtain ⟨v, hv, h1⟩ := h1
    cases v <;> first | (cases h1; done) | skip
    rename_i u
    have hu := look_bool hF hv
    have hy : yielded opsL.toArray a.tmps g.1 = some u := by
      simp [yielded, hog, hd, hu]
    simp only at h1
    by_cases hut : u = g.2
    · rw [if_pos hut] at h1
      left
      refine ⟨?_, (step_sound (oper := { op with guard := none }) ho hF hst' h1 hkd).2⟩
      unfold Region.wanted
      rw [hgd]
      simp [hy, hut]
    · rw [if_neg hut] at h1
      cases h1
      right
      refine ⟨?_, hF.putO_ud hkd⟩
      unfold Region.wanted
      rw [hgd]
      simp [hy, hut]
  · rename_i hgd
    have hw : Region.wanted op (yielded opsL.toArray a.tmps) = true := by simp [Region.wanted, hgd]
    left
    refine ⟨hw, ?_⟩
    split at hs
    · rename_i c x y d hop hd
      simp only [Option.bind_eq_some_iff, Option.some.injEq] at hs
      obtain ⟨sx, hsx, sy, hsy, rfl⟩ := hs
      simp only [stepG, Option.bind_eq_some_iff] at h1
      obtain ⟨v, hv, h1⟩ := h1
      cases v <;> first | (cases h1; done) | skip
      rename_i u
      simp only [Option.bind_eq_some_iff] at h1
      obtain ⟨z, hz, h1⟩ := h1
      split at h1
      · rename_i hfl
        cases h1
        have hu := look_bool hF hv
        have hz' : Rep (All w) w (if u = true then a.eval x else a.eval y) z := by
          cases u with
          | true => exact src_val hF hsx hz
          | false => exact src_val hF hsy hz
        obtain ⟨hkk, hdd⟩ := hkd d hd
        refine outc_value (u := if u = true then a.eval x else a.eval y) (w1 := w) ?_ ?_
        · have : a.eval (.tmp c) = .bool u := eval_tmp hu
          simp [execOp, hop, this, asBool]
        · rw [hd]
          exact hF.put_flat hkk hdd (Below.refl _ _) hz' hfl
      · cases h1
    · simp only [Option.map_eq_some_iff] at hs
      obtain ⟨st, hst', rfl⟩ := hs
      exact (step_sound ho hF hst' h1 hkd).2
theorem dsts_ok {ops : Array Oper} (hnt : ops.toList.all (fun o => match o.dst with | some d => decide (d < nt) | none => true) = true) {i : Nat} {op : Oper} (hop : ops.toList[i]? = some op) : ∀ d, op.dst = some d → d ∈ keep ++ (ops.toList.flatMap fun o => o.dst.toList) ∧ d < nt := by
  intro d hd
  have hm := List.mem_of_getElem? hop
  refine ⟨List.mem_append_right _ (List.mem_flatMap.2 ⟨op, hm, by simp [hd]⟩), ?_⟩
  have h := List.all_eq_true.1 hnt op hm
  rw [hd] at h; simpa using h
theorem regDG_sound (ho : SoundO P o) (hm : P.follows .mixedOrders = true) {id : Nat} {ops : Array Oper} {ss : List GSt} (hss : toGs P ops.toList ops.toList = some ss) (hst : drawG o ss (closeA (ops.toList.map aft)) env = some env') (hnt : ops.toList.all (fun o => match o.dst with | some d => decide (d < nt) | none => true) = true)
    (hacy : ((List.range ops.size).all fun i => match ops[i]? with | some o => (aft o).all fun j => decide (j < i) | none => false) = true)
    (hF : FI P nt keep S base w0 env a w) {Q : Exit → Act → World → Prop} (hQ : ∀ a' w', FI P nt keep S base w0 (dropE ((ops.toList.flatMap fun o => o.dst.toList).filter fun t => !keep.contains t) env') a' w' → Q .normal a' w') :
    (Code.region id ops true).wp P Q a w := by
  refine regAny (o := o) hm (toGs_at hss).1 hst (fun i op s hop hs env e a w hF h1 => ?_) hacy hF hQ
  obtain ⟨s', hs', hsop⟩ := (toGs_at hss).2 i op hop
  rw [hs] at hs'
  cases hs'
  simpa using stepG_sound ho hsop (dsts_ok hnt hop) hF h1
theorem runFG_s : ∀ (ss : List St) (env : Env), runFG o (ss.map .s) env = runF o ss env
  | [], _ => rfl
  | s :: r, env => by
    simp only [List.map_cons, runFG, runF, stepG, footG, runFG_s r]
theorem regSD_sound (ho : SoundO P o) (hm : P.follows .mixedOrders = true) {id : Nat} {ops : Array Oper} {ss : List St} (hss : toSts P ops.toList = some ss) (hst : drawS o ss (closeA (ops.toList.map aft)) env = some env') (hnt : ops.toList.all (fun o => match o.dst with | some d => decide (d < nt) | none => true) = true)
    (hacy : ((List.range ops.size).all fun i => match ops[i]? with | some o => (aft o).all fun j => decide (j < i) | none => false) = true)
    (hF : FI P nt keep S base w0 env a w) {Q : Exit → Act → World → Prop} (hQ : ∀ a' w', FI P nt keep S base w0 (dropE ((ops.toList.flatMap fun o => o.dst.toList).filter fun t => !keep.contains t) env') a' w' → Q .normal a' w') :
    (Code.region id ops true).wp P Q a w := by
  refine regAny (o := o) (ss := ss.map .s) hm (by simpa using (toSts_at hss).1) (by unfold drawG; rw [runFG_s]; exact hst) (fun i op s hop hs env e a w hF h1 => ?_) hacy hF hQ
  obtain ⟨s', hs', hsop⟩ := (toSts_at hss).2 i op hop
  simp only [List.getElem?_map, hs', Option.map_some, Option.some.injEq] at hs
  subst hs
  obtain ⟨hg, hout⟩ := step_sound ho hF hsop h1 (dsts_ok hnt hop)
  exact .inl ⟨by simp [Region.wanted, hg], hout⟩
end
end Go.VM
