/-
  Code with operations and calls that turn memory beside the frame: the code, what is said of it, contracts. No program is named here.
-/
import Derived.Test.YtggmlfmhinafhaaVmT
set_option linter.unusedSectionVars false
namespace Go.VM
open Go.RowKit
variable [Glob]

/-- Which regions of a code ask or turn the memory beside the frame. -/
inductive ShG where
  | c
  | seq (a b : ShG)
  | cond (a b : ShG)
  | blk (a : ShG)
  | loop (a : ShG)
  | lin (fs : List Nat)
  | drw (c : Nat) (fs : List Nat)
  | anew (k : Nat)
  | thaw (m : Nat) (a : ShG)
inductive NG where
  | c (x : C)
  | seq (a b : NG)
  | cond (x : X) (a b : NG)
  | blk (id : Nat) (a : NG)
  | loop (kin : List Nat) (a : NG)
  | lin (ss : List RSt) (ks : List Nat)
  | drw (ss : List RSt) (af : List (List Nat)) (c : Nat) (ks : List Nat)
  | anew (pre : List St) (d : Option Nat) (f : Nat) (xs : List Src) (post : List St) (ks : List Nat)
  | thaw (m : Nat) (a : NG)
section
variable {σ : Type} (ρ : Rs σ) (ad : σ → Nat → List V → List V → Option σ) (P : Program) (o : Orc)
def roundG' (F : Env → σ → (Ex → Env → σ → Prop) → Prop) (kin : List Nat) (K : Ex → Env → σ → Prop) : Nat → Env → σ → Prop
  | 0, _, _ => False
  | n + 1, env, s => F (keepE kin env) s fun e env1 s1 => match e with
    | .n => roundG' F kin K n env1 s1
    | .e j => K (.e j) env1 s1
    | .r => K .r env1 s1
/-- Code from a frame and a state on ends so that K holds. -/
def WG : NG → Env → σ → (Ex → Env → σ → Prop) → Prop
  | .c x, env, s, K => ∃ e env1, exec o x env = some (e, env1) ∧ K e env1 s
  | .seq a b, env, s, K => WG a env s fun e env1 s1 => match e with
    | .n => WG b env1 s1 K
    | .e j => K (.e j) env1 s1
    | .r => K .r env1 s1
  | .cond x a b, env, s, K => ∃ t, evalX o env x = some (.b t) ∧ if t = true then WG a env s K else WG b env s K
  | .blk id a, env, s, K => WG a env s fun e env1 s1 => match e with
    | .e j => if j = id then K .n env1 s1 else K (.e j) env1 s1
    | .n => K .n env1 s1
    | .r => K .r env1 s1
  | .loop kin a, env, s, K => ∃ n, roundG' (WG a) kin K n env s
  | .lin ss ks, env, s, K => ∃ env1 s1, stepsR ρ o ss env s = some (env1, s1) ∧ K .n (dropE ks env1) s1
  | .drw ss af c ks, env, s, K => ∃ (o' : Orc) (env1 : Env) (s1 : σ), drawN o' (ss.map RSt.gst) af (frzAll env) = some env1 ∧ (∀ i st, ss[i]? = some st → okItem ρ s s1 o' af c i st) ∧ (c < ss.length ∨ s1 = s) ∧ K .n (dropE ks env1) s1
  | .anew pre d f xs post ks, env, s, K => ∃ env1, stepsS o pre env = some env1 ∧ bare (frzAll env1) = true ∧ ∃ zs, lookSs (frzAll env1) xs = some zs ∧ okFn P f = true ∧ ∃ T : V → σ → Prop, PFN P ρ f zs s T ∧
      ∀ y s1, T y s1 → okY y = true ∧ ∃ env2, stepsS o post (putO d y (frzAll env1)) = some env2 ∧ K .n (dropE ks env2) s1
  | .thaw m a, env, s, K => ∃ ks vs, get m (frzBut m env) = some (.mp ks vs) ∧ bareBut m (frzBut m env) = true ∧ (∀ x ∈ vs, x.cell = true) ∧ ∀ g s', ad s g ks vs = some s' → WG a (put m (.mr (some g)) (frzBut m env)) s' K
def anewOf (nt : Nat) (keep : List Nat) (k : Nat) (ops : List Oper) : Option NG := match ops.drop k with
  | x :: r => if x.guard.isSome then none else match x.op with
    | .call { callee := .value (.func f), args, .. } => (toSts P (ops.take k)).bind fun s1 => (toSts P r).bind fun s2 => (srcs args.toList).bind fun xs => if dstOk nt ops = true then some (.anew s1 x.dst f xs s2 (looseD keep ops)) else none
    | _ => none
  | [] => none
def compG (gr : Bool) (nt : Nat) (keep ret : List Nat) : ShG → Code → List (Nat × List Nat) → List Nat → Option NG
  | .c, c, es, out => (comp P nt keep ret c es out).map .c
  | .seq s t, .seq a b, es, out => (compG gr nt keep ret s a es (live ret b es out)).bind fun x => (compG gr nt keep ret t b es out).bind fun y => some (.seq x y)
  | .cond s t, .cond c a b, es, out => (condX c).bind fun x => (compG gr nt keep ret s a es out).bind fun a => (compG gr nt keep ret t b es out).bind fun b => some (.cond x a b)
  | .blk s, .block id a, es, out => (compG gr nt keep ret s a ((id, out) :: es) out).bind fun a => some (.blk id a)
  | .loop s, .loop a, es, out => let l := sort1 ((live ret (.loop a) es out).filter fun t => keep.contains t)
    (compG gr nt keep ret s a es l).bind fun c => some (.loop l c)
  | .lin fs, .region _ ops false, _, _ => (toRs P fs ops.toList ops.toList).bind fun ss => if dstOk nt ops.toList = true then some (.lin ss (looseD keep ops.toList)) else none
  | .drw c fs, .region _ ops true, _, _ => (toRs P fs ops.toList ops.toList).bind fun ss => if (dstOk nt ops.toList && (List.range ops.size).all fun i => match ops[i]? with | some o => (aft o).all fun j => decide (j < i) | none => false) = true then some (.drw ss (ops.toList.map aft) c (looseD keep ops.toList)) else none
  | .anew k, .region _ ops false, _, _ => if gr then anewOf P nt keep k ops.toList else none
  | .thaw m s, c, es, out => if gr then (compG gr nt keep ret s c es out).map (.thaw m) else none
  | _, _, _, _ => none
structure GCode where
  np : Nat
  res : List RV
  body : NG
def compileG (gr : Bool) (sh : ShG) (f : Func) : Option GCode := f.body.bind fun c =>
  let ret := resTmps f
  (compG P gr f.ntmps (keepOf f c) ret sh c [] ret).bind fun b => (resOf P f.results.toList).bind fun rs => if f.params.size + f.nfree ≤ f.ntmps ∧ (P.follows .mixedOrders = true) then some ⟨f.params.size + f.nfree, rs, b⟩ else none
end

section
variable {σ : Type} {ρ : Rs σ} {ad : σ → Nat → List V → List V → Option σ} {P : Program} {nt : Nat} {keep ret : List Nat} {env env' : Env} {a : Act} {w : World} {o : Orc} {s s' : σ} {S0 F0 : Nat → Prop} {w00 : World} {gr : Bool}

/-- What a stretch of code does at any frame beside the memory. -/
def DoesG (ρ : Rs σ) (P : Program) (nt : Nat) (keep : List Nat) (S0 F0 : Nat → Prop) (w00 : World) (gr : Bool) (W : Env → σ → (Ex → Env → σ → Prop) → Prop) (c : Code) : Prop :=
  ∀ (env : Env) (s : σ) (K : Ex → Env → σ → Prop), W env s K → ∀ (a : Act) (w : World), FG ρ P nt keep S0 F0 w00 gr env s a w → ∀ Q : Exit → Act → World → Prop, (∀ ex env' s' a' w', K ex env' s' → FG ρ P nt keep S0 F0 w00 gr env' s' a' w' → Q ex.exit a' w') → c.wp P Q a w

theorem WG_sound (ho : SoundO P o) (hρ : SoundR P ρ) (had : gr = true → AdOK ρ ad) (hm : P.follows .mixedOrders = true) : ∀ (sh : ShG) (c : Code) (es : List (Nat × List Nat)) (out : List Nat) (cc : NG), compG P gr nt keep ret sh c es out = some cc → DoesG ρ P nt keep S0 F0 w00 gr (WG ρ ad P o cc) c
  | .c, c, es, out, cc, hc => by
    simp only [compG, Option.map_eq_some_iff] at hc
    obtain ⟨x, hx, rfl⟩ := hc
    intro env s K hW a w hFE Q hQ
    obtain ⟨ex, env1, he, hK⟩ := hW
    obtain ⟨S, F, base, wi, hF, hR, hFb, hb, hKp, k1, k2, k3, k4⟩ := hFE
    exact exec_sound ho hm c es out x hx env ex env1 he a w hF Q fun a' w' h => hQ ex env1 s a' w' hK (FG.frame hF hR hFb hb hKp k1 k2 k3 k4 h)
  | .seq s1 t1, .seq x y, es, out, cc, hc => by
    simp only [compG, Option.bind_eq_some_iff, Option.some.injEq] at hc
    obtain ⟨n1, h1, n2, h2, rfl⟩ := hc
    intro env s K hW a w hF Q hQ
    refine wp_seq (WG_sound ho hρ had hm s1 x _ _ n1 h1 env s _ hW a w hF _ fun ex env1 s' a1 w1 hK hF1 => ?_)
    cases ex with
    | n => exact WG_sound ho hρ had hm t1 y _ _ n2 h2 env1 s' _ hK a1 w1 hF1 Q hQ
    | e j => exact hQ (.e j) env1 s' a1 w1 hK hF1
    | r => exact hQ .r env1 s' a1 w1 hK hF1
  | .cond s1 t1, .cond c x y, es, out, cc, hc => by
    simp only [compG, Option.bind_eq_some_iff, Option.some.injEq] at hc
    obtain ⟨cx, hcx, n1, h1, n2, h2, rfl⟩ := hc
    intro env s K hW a w hF Q hQ
    obtain ⟨t', hv, hW⟩ := hW
    obtain ⟨_, _, _, _, hFI, _⟩ := id hF
    refine wp_cond (cond_val hFI hcx hv) ?_
    cases t' with
    | true => exact WG_sound ho hρ had hm s1 x _ _ n1 h1 env s K hW a w hF Q hQ
    | false => exact WG_sound ho hρ had hm t1 y _ _ n2 h2 env s K hW a w hF Q hQ
  | .blk s1, .block id x, es, out, cc, hc => by
    simp only [compG, Option.bind_eq_some_iff, Option.some.injEq] at hc
    obtain ⟨n1, h1, rfl⟩ := hc
    intro env s K hW a w hF Q hQ
    refine wp_block (WG_sound ho hρ had hm s1 x _ _ n1 h1 env s _ hW a w hF _ fun ex env1 s' a1 w1 hK hF1 => ?_)
    cases ex with
    | n => exact hQ .n env1 s' a1 w1 hK hF1
    | e j =>
      show Exit.inBlock id Q (.exit j) a1 w1
      simp only [Exit.inBlock]
      simp only at hK
      by_cases hj : j = id
      · rw [if_pos hj] at hK ⊢; exact hQ .n env1 s' a1 w1 hK hF1
      · rw [if_neg hj] at hK ⊢; exact hQ (.e j) env1 s' a1 w1 hK hF1
    | r => exact hQ .r env1 s' a1 w1 hK hF1
  | .loop s1, .loop x, es, out, cc, hc => by
    simp only [compG, Option.bind_eq_some_iff, Option.some.injEq] at hc
    obtain ⟨n1, h1, rfl⟩ := hc
    intro env s K hW a w hF Q hQ
    obtain ⟨n, hW⟩ := hW
    refine wp_loop_rounds n ?_
    induction n generalizing env s a w with
    | zero => exact hW.elim
    | succ n ih =>
      refine WG_sound ho hρ had hm s1 x _ _ n1 h1 _ s _ hW a w (hF.keepE _) _ fun ex env1 s' a1 w1 hK hF1 => ?_
      cases ex with
      | n => exact ih env1 s' a1 w1 hF1 hK
      | e j => exact hQ (.e j) env1 s' a1 w1 hK hF1
      | r => exact hQ .r env1 s' a1 w1 hK hF1
  | .lin fs, c, es, out, cc, hc => by
    unfold compG at hc
    split at hc <;> first | (rename_i hh; cases hh; done) | skip
    · rename_i hh
      cases hh
      simp only [Option.bind_eq_some_iff] at hc
      obtain ⟨ss, hss, hc⟩ := hc
      split at hc
      · rename_i hd
        cases hc
        intro env s K hW a w hF Q hQ
        obtain ⟨env1, s1, hst, hK⟩ := hW
        exact lin_sound ho hρ hss hst hd hF fun a' w' h => hQ .n _ s1 a' w' hK h
      · cases hc
    · cases hc
  | .drw k fs, c, es, out, cc, hc => by
    unfold compG at hc
    split at hc <;> first | (rename_i hh; cases hh; done) | skip
    · rename_i hh
      cases hh
      simp only [Option.bind_eq_some_iff] at hc
      obtain ⟨ss, hss, hc⟩ := hc
      split at hc
      · rename_i hd
        simp only [Bool.and_eq_true] at hd
        cases hc
        intro env s K hW a w hF Q hQ
        obtain ⟨o', env1, s1, hst, hit, hcs, hK⟩ := hW
        have hlen := (toRs_at hss).1
        refine drw_sound ho hρ hm hss hst hit (hcs.imp (fun h => by rw [hlen] at h; simpa using h) id) hd.1 hd.2 (hF.map fun S base wi h => h.freeze _) fun a' w' h => hQ .n _ s1 a' w' hK h
      · cases hc
    · cases hc
  | .anew k, c, es, out, cc, hc => by
    unfold compG at hc
    split at hc <;> first | (rename_i hh; cases hh; done) | skip
    · rename_i hh
      cases hh
      split at hc
      · rename_i hgr
        obtain rfl : gr = true := hgr
        rename_i ops
        unfold anewOf at hc
        split at hc
        · rename_i x r hdr
          split at hc
          · cases hc
          · rename_i hg
            split at hc
            · rename_i f args tys hop
              simp only [Option.bind_eq_some_iff] at hc
              obtain ⟨s1, h1, s2, h2, xs, hxs, hc⟩ := hc
              split at hc
              · rename_i hd
                cases hc
                have hops : ops.toList = ops.toList.take k ++ x :: r := by rw [← hdr, List.take_append_drop]
                have hops' : ops = (ops.toList.take k ++ x :: r).toArray := by apply Array.toList_inj.1; simpa using hops
                intro env s K hW a w hF Q hQ
                obtain ⟨env1, hst, hbare, zs, hl, hok, T, hpf, hT⟩ := hW
                rw [hops']
                rw [hops] at hd
                refine anew_sound ho h1 h2 (by simpa using hg) hop hxs hd hst hbare hl hok hpf hF fun y s1' hTy => ?_
                obtain ⟨hoy, env2, hst2, hK⟩ := hT y s1' hTy
                refine ⟨hoy, env2, hst2, fun a' w' h => hQ .n _ s1' a' w' hK ?_⟩
                rw [hops]; exact h
              · cases hc
            · cases hc
        · cases hc
      · cases hc
    · cases hc
  | .thaw m s1, c, es, out, cc, hc => by
    simp only [compG] at hc
    split at hc
    · rename_i hgr
      have hgr : gr = true := hgr
      simp only [Option.map_eq_some_iff] at hc
      obtain ⟨n1, h1, rfl⟩ := hc
      intro env s K hW a w hF Q hQ
      obtain ⟨ks, vs, hg, hb, hcl, hW⟩ := hW
      have hF0 : FG ρ P nt keep S0 F0 w00 true env s a w := hgr ▸ hF
      obtain ⟨g, s', hs', hF1⟩ := thaw_sound (had hgr) hF0 hg hb hcl
      exact WG_sound ho hρ had hm s1 c es out n1 h1 _ _ K (hW g s' hs') a w (hgr.symm ▸ hF1) Q hQ
    · cases hc

theorem roundG'_mono {F : Env → σ → (Ex → Env → σ → Prop) → Prop} (hF : ∀ env s (K K' : Ex → Env → σ → Prop), (∀ e env1 s1, K e env1 s1 → K' e env1 s1) → F env s K → F env s K') {kin : List Nat} {K K' : Ex → Env → σ → Prop} (h : ∀ e env1 s1, K e env1 s1 → K' e env1 s1) : ∀ (n : Nat) (env : Env) (s : σ), roundG' F kin K n env s → roundG' F kin K' n env s
  | 0, _, _, hn => hn
  | n + 1, env, s, hn => hF _ _ _ _ (fun e env1 s1 he => by
      cases e with
      | n => exact roundG'_mono hF h n env1 s1 he
      | e j => exact h _ _ _ he
      | r => exact h _ _ _ he) hn
theorem WG_mono : ∀ (c : NG) (env : Env) (s : σ) (K K' : Ex → Env → σ → Prop), (∀ e env1 s1, K e env1 s1 → K' e env1 s1) → WG ρ ad P o c env s K → WG ρ ad P o c env s K'
  | .c x, env, s, K, K', h, hW => by
    obtain ⟨e, env1, h1, h2⟩ := hW
    exact ⟨e, env1, h1, h _ _ _ h2⟩
  | .seq a b, env, s, K, K', h, hW => WG_mono a env s _ _ (fun e env1 s1 he => by
      cases e with
      | n => exact WG_mono b env1 s1 _ _ h he
      | e j => exact h _ _ _ he
      | r => exact h _ _ _ he) hW
  | .cond x a b, env, s, K, K', h, hW => by
    obtain ⟨t, h1, h2⟩ := hW
    refine ⟨t, h1, ?_⟩
    cases t with
    | true => exact WG_mono a env s _ _ h h2
    | false => exact WG_mono b env s _ _ h h2
  | .blk id a, env, s, K, K', h, hW => WG_mono a env s _ _ (fun e env1 s1 he => by
      cases e with
      | n => exact h _ _ _ he
      | r => exact h _ _ _ he
      | e j =>
        simp only at he ⊢
        by_cases h1 : j = id
        · rw [if_pos h1] at he ⊢; exact h _ _ _ he
        · rw [if_neg h1] at he ⊢; exact h _ _ _ he) hW
  | .loop kin a, env, s, K, K', h, hW => by
    obtain ⟨n, hn⟩ := hW
    exact ⟨n, roundG'_mono (fun env s K K' => WG_mono a env s K K') h n env s hn⟩
  | .lin ss ks, env, s, K, K', h, hW => by
    obtain ⟨env1, s1, h1, h2⟩ := hW
    exact ⟨env1, s1, h1, h _ _ _ h2⟩
  | .drw ss af c ks, env, s, K, K', h, hW => by
    obtain ⟨o', env1, s1, h1, h2, h3, h4⟩ := hW
    exact ⟨o', env1, s1, h1, h2, h3, h _ _ _ h4⟩
  | .anew pre d f xs post ks, env, s, K, K', h, hW => by
    obtain ⟨env1, h1, h2, zs, h3, h4, T, h5, h6⟩ := hW
    refine ⟨env1, h1, h2, zs, h3, h4, T, h5, fun y s1 hT => ?_⟩
    obtain ⟨h7, env2, h8, h9⟩ := h6 y s1 hT
    exact ⟨h7, env2, h8, h _ _ _ h9⟩
  | .thaw m a, env, s, K, K', h, hW => by
    obtain ⟨ks, vs, h1, h2, h3, h4⟩ := hW
    exact ⟨ks, vs, h1, h2, h3, fun g s' hs' => WG_mono a _ _ _ _ h (h4 g s' hs')⟩
/-- A loop, by what holds ahead of each round. -/
theorem WG.loop {kin : List Nat} {a : NG} {K : Ex → Env → σ → Prop} (I : Nat → Env → σ → Prop)
    (h : ∀ n env s, I n env s → WG ρ ad P o a (VM.keepE kin env) s fun e env1 s1 => match e with
      | .n => ∃ k, k < n ∧ I k env1 s1
      | .e j => K (.e j) env1 s1
      | .r => K .r env1 s1) {n : Nat} {env : Env} {s : σ} (hI : I n env s) : WG ρ ad P o (.loop kin a) env s K := by
  have hF := fun env s K K' => WG_mono (ρ := ρ) (ad := ad) (P := P) (o := o) a env s K K'
  have mono : ∀ (m : Nat) (env : Env) (s : σ), roundG' (WG ρ ad P o a) kin K m env s → roundG' (WG ρ ad P o a) kin K (m + 1) env s := by
    intro m
    induction m with
    | zero => intro env s h; exact h.elim
    | succ m ih =>
      intro env s h
      refine hF _ _ _ _ (fun e env1 s1 he => ?_) h
      cases e with
      | n => exact ih env1 s1 he
      | e j => exact he
      | r => exact he
  have mono' : ∀ (m k : Nat) (env : Env) (s : σ), m ≤ k → roundG' (WG ρ ad P o a) kin K m env s → roundG' (WG ρ ad P o a) kin K k env s := by
    intro m k env s hk
    induction hk with
    | refl => exact id
    | step _ ih => exact fun h => mono _ _ _ (ih h)
  refine ⟨n + 1, ?_⟩
  induction n using Nat.strongRecOn generalizing env s with
  | _ n ih =>
    refine hF _ _ _ _ (fun e env1 s1 he => ?_) (h n env s hI)
    cases e with
    | n =>
      obtain ⟨k, hk, hI'⟩ := he
      exact mono' (k + 1) n env1 s1 (by omega) (ih k hk hI')
    | e j => exact he
    | r => exact he

/-! ### Contracts -/
/-- What a frame hands back. -/
theorem res_of {rs : List ResultVar} {rvs : List RV} {Im : Nat → Prop} {base : Nat} {y : V} {fn : Func} (hE : Ents P Im w base env (tm a)) (hs : Srt env) (hfn : fn.results.toList = rs) (hres : resOf P rs = some rvs) (hret : retV rvs env = some y) : ∃ v, (results fn a.tmps).run P w = .ok v w ∧ Res P Im w base v y := by
  subst hfn
  unfold retV at hret
  simp only [Option.map_eq_some_iff] at hret
  obtain ⟨ys, hys, hy'⟩ := hret
  obtain ⟨us, hrun, hl, hh, hap, _⟩ := resVs_sound hE hs hres hys
  refine ⟨(if h : us.toArray.size = 1 then us.toArray[0] else .tuple us.toArray), ?_, ?_⟩
  · unfold results
    rw [Array.mapM_eq_mapM_toList]
    simp only [map_eq_pure_bind, Sem.run_bind]
    erw [hrun]
    simp only [Result.andThen_ok, Sem.run_pure]
  · match ys, us, hl, hh, hy' with
    | [y1], [u1], _, hh, hy' =>
      simp only at hy'
      subst hy'
      have := hh 0 u1 y1 rfl rfl
      simp only [List.size_toArray, List.length_cons, List.length_nil, Nat.zero_add, dite_true]
      rw [Res.eq1]
      · exact this
      · intro zs e; subst e; exact this
    | [], [], _, hh, hy' =>
      simp only at hy'
      subst hy'
      exact ⟨[], rfl, rfl, by simp, fun i j u u' y y' g _ h => by simp at h⟩
    | y1 :: y2 :: yr, u1 :: u2 :: ur, hl, hh, hy' =>
      simp only at hy'
      subst hy'
      have h1 : ¬ (u1 :: u2 :: ur).toArray.size = 1 := by simp
      rw [dif_neg h1]
      exact ⟨_, rfl, hl, hh, hap⟩
/-- A function that turns the memory beside it; what it hands back is read from then on. -/
theorem bodyG_sound (ho : SoundO P o) (hρ : SoundR P ρ) {f : FuncId} {fn : Func} (hf : P.funcs[f]? = some fn) {sh : ShG} {nc : GCode} (hc : compileG P false sh fn = some nc) {xs : List V} {y : V} {s s' : σ} (h1 : xs.length = nc.np) (h2 : xs.all V.arg = true)
    (hW : WG ρ ad P o nc.body (args0 0 xs) s fun e env s1 => (∀ j, e ≠ .e j) ∧ (∃ y0, retV nc.res env = some y0 ∧ y = frzt y0) ∧ s1 = s') : PFG P ρ f xs s y s' := by
  unfold compileG at hc
  simp only [Option.bind_eq_some_iff] at hc
  obtain ⟨c, hbody, b, hcomp, rs, hres, hc⟩ := hc
  split at hc
  · rename_i hcond
    cases hc
    intro S F w vs hS hSF hG hr hR
    refine calls_of_wp hf hbody ?_
    have hlen : vs.length = fn.params.size + fn.nfree := hr.1.trans h1
    have hF := FI.start (P := P) (nt := fn.ntmps) (keep := keepOf fn c) hS hG hr h2 (by rw [h1]; exact hcond.1) (fun n hn => mem_union (List.mem_range.2 (by rw [h1] at hn; exact hn))) (by simp [hlen]; exact hcond.1)
    have hFE : FG ρ P fn.ntmps (keepOf fn c) S F w false (args0 0 xs) s _ w := ⟨S, F, w.heap.size, w, hF, hR, fun b hb => ⟨ρ.lt _ _ _ _ b hR hb, hSF b hb⟩, Nat.le_refl _, ⟨rfl, rfl, rfl, Nat.le_refl _, fun _ _ _ => rfl⟩, fun _ h => h, fun b h => .inl h, fun b h => .inl h, fun _ => rfl⟩
    refine WG_sound (S0 := S) (F0 := F) (w00 := w) (gr := false) ho hρ (fun h => by cases h) hcond.2 sh c [] (resTmps fn) b hcomp _ s _ hW _ w hFE _ fun ex env' s1 a' w' hK hFE' => ?_
    obtain ⟨hx, ⟨y0, hret, rfl⟩, rfl⟩ := hK
    obtain ⟨S', F', base, wi, hF', hR', hFb, hb, hKp, k1, k2, k3, k4⟩ := hFE'
    obtain rfl := k4 rfl
    have fin : a'.defers = [] ∧ ∃ v, (results fn a'.tmps).run P w' = .ok v w' ∧ ∃ v', Ending.returned v = .returned v' ∧ Keeps w.heap.size F' w w' ∧
        ∃ S'' : Nat → Prop, (∀ b, S b → S'' b) ∧ (∀ b, S'' b → (S b ∨ w.heap.size ≤ b) ∧ b < w'.heap.size) ∧ ρ.R s1 S'' F' w' ∧ Rep S'' w' v' (frzt y0) := by
      obtain ⟨Im, hI1, hI2, hE⟩ := hF'.ents
      obtain ⟨v, hrun, hrs⟩ := res_of (fn := fn) hE hF'.srt rfl hres hret
      refine ⟨hF'.defers, v, hrun, v, rfl, ⟨hF'.below.os.trans hKp.os, hF'.below.tape.trans hKp.tape, hF'.below.output.trans hKp.output, Nat.le_trans hb hF'.bsz, fun b hb' hnf => ?_⟩, fun b => Im b ∨ (base ≤ b ∧ b < w'.heap.size), fun b h => .inl (hI1 b (k1 b h)), fun b h => ?_, ?_, hrs.frzt (fun b h => .inl h) fun b h1 h2 => .inr ⟨h1, h2⟩⟩
      · rw [hF'.below.block b (by omega), hKp.block b hb' hnf]
      · rcases h with h | ⟨h, h'⟩
        · refine ⟨?_, (hI2 b h).2⟩
          rcases (hI2 b h).1 with h | h
          · exact k2 b h
          · exact .inr (Nat.le_trans hb h)
        · exact ⟨.inr (Nat.le_trans hb h), h'⟩
      · exact ρ.loc _ S' _ F' w' w' hR' (fun b h => .inl (hI1 b h)) fun _ _ => rfl
    cases ex with
    | n => exact fin
    | r => exact fin
    | e id => exact absurd rfl (hx id)
  · cases hc
theorem Res1.low {S : Nat → Prop} {base base' : Nat} {v : Value} {y : V} (h : Res1 P S w base v y) (hb : base' ≤ base) : Res1 P S w base' v y := by
  cases y with
  | ow e es =>
    obtain ⟨⟨vs, ⟨hl, hv⟩, h3⟩, hn⟩ := h
    refine ⟨⟨vs, ⟨hl, ?_⟩, h3⟩, hn⟩
    rcases hv with h | ⟨g, cap, cur, rfl, h2, hh⟩
    · exact .inl h
    · exact .inr ⟨g, cap, cur, rfl, Nat.le_trans hb h2, hh⟩
  | bx cs =>
    obtain ⟨⟨g, vs, ty, rfl, h2, hh⟩, hn⟩ := h
    exact ⟨⟨g, vs, ty, rfl, Nat.le_trans hb h2, hh⟩, hn⟩
  | mp ks vs =>
    obtain ⟨⟨g, es, c, rfl, h2, hh⟩, hn⟩ := h
    exact ⟨⟨g, es, c, rfl, Nat.le_trans hb h2, hh⟩, hn⟩
  | _ => exact h
theorem Res.low {S : Nat → Prop} {base base' : Nat} {v : Value} {y : V} (h : Res P S w base v y) (hb : base' ≤ base) : Res P S w base' v y := by
  cases y with
  | t ys =>
    obtain ⟨us, e, hl, hh, hap⟩ := h
    exact ⟨us, e, hl, fun j u y hu hy => (hh j u y hu hy).low hb, hap⟩
  | ow e es => exact Res1.low (P := P) (y := .ow e es) h hb
  | bx cs => exact Res1.low (P := P) (y := .bx cs) h hb
  | mp ks vs => exact Res1.low (P := P) (y := .mp ks vs) h hb
  | _ => exact h
/-- A function that lays such memory for itself. -/
theorem bodyN_sound (ho : SoundO P o) (hρ : SoundR P ρ) (had : AdOK ρ ad) {f : FuncId} {fn : Func} (hf : P.funcs[f]? = some fn) {sh : ShG} {nc : GCode} (hc : compileG P true sh fn = some nc) {xs : List V} {y : V} {s : σ} (h0 : ∀ S w, ρ.R s S (fun _ => False) w) (h1 : xs.length = nc.np) (h2 : xs.all V.arg = true)
    (hW : WG ρ ad P o nc.body (args0 0 xs) s fun e env _ => (∀ j, e ≠ .e j) ∧ retV nc.res env = some y) : PF P f xs y := by
  unfold compileG at hc
  simp only [Option.bind_eq_some_iff] at hc
  obtain ⟨c, hbody, b, hcomp, rs, hres, hc⟩ := hc
  split at hc
  · rename_i hcond
    cases hc
    intro S w vs hS hG hr
    refine calls_of_wp hf hbody ?_
    have hlen : vs.length = fn.params.size + fn.nfree := hr.1.trans h1
    have hF := FI.start (P := P) (nt := fn.ntmps) (keep := keepOf fn c) hS hG hr h2 (by rw [h1]; exact hcond.1) (fun n hn => mem_union (List.mem_range.2 (by rw [h1] at hn; exact hn))) (by simp [hlen]; exact hcond.1)
    have hFE : FG ρ P fn.ntmps (keepOf fn c) S (fun _ => False) w true (args0 0 xs) s _ w := ⟨S, fun _ => False, w.heap.size, w, hF, h0 S w, fun b hb => hb.elim, Nat.le_refl _, ⟨rfl, rfl, rfl, Nat.le_refl _, fun _ _ _ => rfl⟩, fun _ h => h, fun b h => .inl h, fun b h => .inl h, fun _ => rfl⟩
    refine WG_sound (S0 := S) (F0 := fun _ => False) (w00 := w) (gr := true) ho hρ (fun _ => had) hcond.2 sh c [] (resTmps fn) b hcomp _ s _ hW _ w hFE _ fun ex env' s1 a' w' hK hFE' => ?_
    obtain ⟨hx, hret⟩ := hK
    obtain ⟨S', F', base, wi, hF', hR', hFb, hb, hKp, k1, k2, k3, k4⟩ := hFE'
    have fin : a'.defers = [] ∧ ∃ v, (results fn a'.tmps).run P w' = .ok v w' ∧ ∃ v', Ending.returned v = .returned v' ∧ Below w.heap.size w w' ∧
        ∃ S'' : Nat → Prop, (∀ b, S b → S'' b) ∧ (∀ b, S'' b → (S b ∨ w.heap.size ≤ b) ∧ b < w'.heap.size) ∧ Res P S'' w' w.heap.size v' y := by
      obtain ⟨Im, hI1, hI2, hE⟩ := hF'.ents
      obtain ⟨v, hrun, hrs⟩ := res_of (fn := fn) hE hF'.srt rfl hres hret
      refine ⟨hF'.defers, v, hrun, v, rfl, ⟨hF'.below.os.trans hKp.os, hF'.below.tape.trans hKp.tape, hF'.below.output.trans hKp.output, Nat.le_trans hb hF'.bsz, fun b hb' => ?_⟩, Im, fun b h => hI1 b (k1 b h), fun b h => ⟨?_, (hI2 b h).2⟩, hrs.low hb⟩
      · rw [hF'.below.block b (by omega), hKp.block b hb' id]
      · rcases (hI2 b h).1 with h | h
        · exact k2 b h
        · exact .inr (Nat.le_trans hb h)
    cases ex with
    | n => exact fin
    | r => exact fin
    | e id => exact absurd rfl (hx id)
  · cases hc
end
end Go.VM
/-
  Maps in memory beside the frame, each at its block: what they hold, key by key. No program is named here.
-/
namespace Go.VM
open Go.RowKit
variable [Glob]

section
variable {env : Env} {q : Option Nat}
@[simp] theorem names_mr : (V.mr q).names = none := rfl
@[simp] theorem frz_mr : frz (.mr q) = .mr q := rfl
@[simp] theorem own_mr : (V.mr q).isOwn = false := rfl
@[simp] theorem flat_mr : (V.mr q).flat = true := by simp [V.flat]
@[simp] theorem flat1_mr : (V.mr q).flat1 = true := by simp [V.flat1, V.flat]
@[simp] theorem uniq_mr : (V.mr q).uniq = true := by simp [V.uniq]
@[simp] theorem lookE_mr : lookE env (some (.mr q)) = some (.mr q) := rfl
@[simp] theorem rd_mr : rd (.mr q) = some (.mr q) := rfl
@[simp] theorem cell_mr : V.cell (.mr q) = true := rfl
end
/-- Maps: their blocks, their keys, what stands at each. -/
abbrev Maps := List (Nat × List V × List V)
def putM (g : Nat) (ks vs : List V) : Maps → Maps
  | [] => []
  | p :: s => if p.1 = g then (g, ks, vs) :: s else p :: putM g ks vs s
def getM (g : Nat) : Maps → Option (List V × List V)
  | [] => none
  | p :: s => if p.1 = g then some p.2 else getM g s
/-- The map in block g. -/
def MapAt (S : Nat → Prop) (w : World) (g : Nat) (ks vs : List V) : Prop :=
  ∃ (es : Array MapEntry) (clock : Nat), w.heap[g]? = some (.map es clock) ∧ es.toList.map (·.key) = ks.map V.toVal ∧ (∀ x ∈ ks, x.uniq = true) ∧ Reps S w (es.toList.map (·.val)) vs ∧ (es.toList.map (·.born)).Nodup ∧ ∀ x ∈ es.toList, x.born < clock
structure MapsOK (s : Maps) (S F : Nat → Prop) (w : World) : Prop where
  dom : ∀ b, F b ↔ ∃ p ∈ s, p.1 = b
  nodup : (s.map (·.1)).Nodup
  each : ∀ p ∈ s, MapAt S w p.1 p.2.1 p.2.2

section
variable (P : Program) (cf : Maps → Nat → List V → Option (V × Maps))
/-- A look, a store, or a call by cf. -/
def mapEff (s : Maps) (f : Nat) (zs : List V) : Option (V × Maps) :=
  if f = LOOK then match zs with
    | [.i .i64 t, .mr q, k] => (mapTy P t.toNat).bind fun p => (zeroV P p.2).bind fun z => if (decide (0 ≤ t) && keyB p.1 k) = true then match q with
        | none => if z.cell = true then some (z, s) else none
        | some g => (getM g s).bind fun m => if (m.1.all (keyB p.1) && ((mfind k m.1 m.2).getD z).cell) = true then some ((mfind k m.1 m.2).getD z, s) else none
      else none
    | _ => none
  else if f = UPD then match zs with
    | [.i .i64 t, .mr (some g), k, v] => (mapTy P t.toNat).bind fun p => (getM g s).bind fun m => if (decide (0 ≤ t) && keyB p.1 k && m.1.all (keyB p.1) && m.2.all V.uniq && v.uniq && v.cell) = true then some (.t [], putM g (mkeys k m.1) (mvals k v m.1 m.2) s) else none
    | _ => none
  else if f = NILC then match zs with
    | [.r cs] => some (.r cs, s)
    | _ => none
  else cf s f zs
end

section
variable {P : Program} {S S' F : Nat → Prop} {w w' : World} {s : Maps}
theorem MapAt.move {g : Nat} {ks vs : List V} (h : MapAt S w g ks vs) (hS : ∀ b, S b → S' b) (hw : ∀ b, S b → w'.heap[b]? = w.heap[b]?) (hg : w'.heap[g]? = w.heap[g]?) : MapAt S' w' g ks vs := by
  obtain ⟨es, clock, h1, h2, h3, h4, h5⟩ := h
  exact ⟨es, clock, hg.trans h1, h2, h3, h4.move hS fun p hp => World.cell?_of_block (hw _ hp), h5⟩
theorem MapsOK.loc (h : MapsOK s S F w) (hS : ∀ b, S b → S' b) (hw : ∀ b, S b ∨ F b → w'.heap[b]? = w.heap[b]?) : MapsOK s S' F w' :=
  ⟨h.dom, h.nodup, fun p hp => (h.each p hp).move hS (fun b hb => hw b (.inl hb)) (hw _ (.inr ((h.dom _).2 ⟨p, hp, rfl⟩)))⟩
def mapsR (P : Program) (cf : Maps → Nat → List V → Option (V × Maps)) : Rs Maps where
  R := MapsOK
  eff := mapEff P cf
  loc := fun _ _ _ _ _ _ h hS hw => h.loc hS hw
  lt := fun s S F w b h hb => by
    obtain ⟨p, hp, rfl⟩ := (h.dom b).1 hb
    obtain ⟨es, clock, h1, _⟩ := h.each p hp
    exact (Array.getElem?_eq_some_iff.1 h1).1
theorem getM_mem {g : Nat} {m : List V × List V} : ∀ {s : Maps}, getM g s = some m → (g, m) ∈ s
  | p :: s, h => by
    simp only [getM] at h
    split at h
    · rename_i hg
      cases h; subst hg; exact List.mem_cons_self ..
    · exact List.mem_cons_of_mem _ (getM_mem h)
theorem putM_fst {g : Nat} {ks vs : List V} : ∀ s : Maps, (putM g ks vs s).map (·.1) = s.map (·.1)
  | [] => rfl
  | p :: s => by
    simp only [putM]
    split
    · rename_i h; simp [h]
    · simp [putM_fst s]
theorem putM_mem {g : Nat} {ks vs : List V} {q : Nat × List V × List V} : ∀ {s : Maps}, (s.map (·.1)).Nodup → q ∈ putM g ks vs s → q = (g, ks, vs) ∨ (q ∈ s ∧ q.1 ≠ g)
  | [], _, h => by cases h
  | p :: s, hn, h => by
    simp only [List.map_cons, List.nodup_cons] at hn
    simp only [putM] at h
    split at h
    · rename_i hp
      rcases List.mem_cons.1 h with h | h
      · exact .inl h
      · refine .inr ⟨List.mem_cons_of_mem _ h, fun e => hn.1 ?_⟩
        rw [hp, ← e]; exact List.mem_map_of_mem h
    · rename_i hp
      rcases List.mem_cons.1 h with rfl | h
      · exact .inr ⟨List.mem_cons_self .., hp⟩
      · rcases putM_mem hn.2 h with h | ⟨h1, h2⟩
        · exact .inl h
        · exact .inr ⟨List.mem_cons_of_mem _ h1, h2⟩
/-- A key among keys, whatever stands there. -/
theorem find_at {kt : Nat} {k : V} (hk : keyB kt k = true) : ∀ {ks vs : List V} {es : List MapEntry} (i : Nat), es.map (·.key) = ks.map V.toVal → es.length = vs.length → ks.all (keyB kt) = true →
    (mfind k ks vs = none ∧ Instr.findNow (keyDesc kt) k.toVal es i = some none) ∨ ∃ (j : Nat) (e : MapEntry) (r : V), mfind k ks vs = some r ∧ Instr.findNow (keyDesc kt) k.toVal es i = some (some (i + j, e.val)) ∧ es[j]? = some e ∧ vs[j]? = some r
  | [], vs, [], i, _, h2, _ => .inl ⟨by cases vs <;> rfl, rfl⟩
  | x :: ks, y :: vs, e :: es, i, h1, h2, h3 => by
    simp only [List.map_cons, List.cons.injEq] at h1
    simp only [List.length_cons, Nat.add_right_cancel_iff] at h2
    simp only [List.all_cons, Bool.and_eq_true] at h3
    have hs := sameNow_eq hk h3.1
    cases hq : keyEq k x with
    | true =>
      refine .inr ⟨0, e, y, by simp [mfind, hq], ?_, rfl, rfl⟩
      simp only [Instr.findNow, h1.1, hs, hq, Nat.add_zero]
    | false =>
      have hm : mfind k (x :: ks) (y :: vs) = mfind k ks vs := by simp [mfind, hq]
      have hf : Instr.findNow (keyDesc kt) k.toVal (e :: es) i = Instr.findNow (keyDesc kt) k.toVal es (i + 1) := by simp only [Instr.findNow, h1.1, hs, hq]
      rw [hm, hf]
      rcases find_at hk (i + 1) h1.2 h2 h3.2 with h | ⟨j, e', r, g1, g2, g3, g4⟩
      · exact .inl h
      · exact .inr ⟨j + 1, e', r, g1, by rw [g2]; congr 3; omega, g3, g4⟩
  | [], _, e :: es, i, h1, _, _ => by simp at h1
  | x :: ks, _, [], i, h1, _, _ => by simp at h1
  | x :: ks, [], e :: es, i, _, h2, _ => by simp at h2
theorem zeroV_rep {t : TypeId} {z : V} (h : zeroV P t = some z) : ∃ zv, (∀ w : World, (zeroValue t).run P w = .ok zv w) ∧ ∀ (S : Nat → Prop) (w : World), Rep S w zv z := by
  unfold zeroV at h
  cases hi : P.info? t with
  | none => rw [hi] at h; cases h
  | some it =>
    rw [hi] at h
    simp only [Option.bind_some] at h
    cases hzz : it.zero with
    | none => rw [hzz] at h; cases h
    | some zv =>
      rw [hzz] at h
      simp only [Option.bind_some] at h
      exact ⟨zv, fun w => by simp [zeroValue, typeInfo, hi, hzz], fun S w => ofConst_rep h⟩
theorem lookG_run {t k0 e : TypeId} {kt g : Nat} (ht : P.underlying t = some (.map k0 e)) (hkt : keyTy P k0 = some kt) {z : V} (hz : zeroV P e = some z) {ks vs : List V} (hM : MapAt S w g ks vs) {k : V} (hk : keyB kt k = true) (h3 : ks.all (keyB kt) = true) :
    ∃ u, (Instr.lookup t (.map (some g)) k.toVal false).run P w = .ok u w ∧ Rep S w u ((mfind k ks vs).getD z) := by
  obtain ⟨es, clock, hg, h1, _, hv, _⟩ := hM
  obtain ⟨zv, hzr, hzrep⟩ := zeroV_rep hz
  have hl : es.toList.length = vs.length := by have := hv.1; simpa using this
  have hf : ∀ r, Instr.findNow (keyDesc kt) k.toVal es.toList 0 = some r → (Instr.findKey k0 k.toVal es.toList).run P w = .ok r w := fun r hr => by
    unfold Instr.findKey
    simp only [Sem.run_bind, run_underlying (keyTy_desc hkt), Result.andThen_ok, hr, Sem.run_pure]
  rcases find_at hk 0 h1 hl h3 with ⟨hm, hn⟩ | ⟨j, en, r, hm, hn, hj, hr⟩
  · refine ⟨zv, ?_, by rw [hm]; exact hzrep S w⟩
    unfold Instr.lookup
    simp only [Sem.run_bind, run_underlying ht, Result.andThen_ok, getMap_run hg, Sem.run_pure, checkKey_run hkt _ hk, hf _ hn, hzr]
    simp
  · refine ⟨en.val, ?_, by rw [hm]; exact hv.2 j en.val r (by simp [List.getElem?_map, hj]) hr⟩
    unfold Instr.lookup
    simp only [Sem.run_bind, run_underlying ht, Result.andThen_ok, getMap_run hg, Sem.run_pure, checkKey_run hkt _ hk, hf _ hn]
    simp
theorem look0_run {t k0 e : TypeId} {kt : Nat} (ht : P.underlying t = some (.map k0 e)) (hkt : keyTy P k0 = some kt) {z : V} (hz : zeroV P e = some z) {k : V} (hk : keyB kt k = true) :
    ∃ u, (Instr.lookup t (.map none) k.toVal false).run P w = .ok u w ∧ Rep S w u z := by
  obtain ⟨zv, hzr, hzrep⟩ := zeroV_rep hz
  refine ⟨zv, ?_, hzrep S w⟩
  unfold Instr.lookup
  have hf : (Instr.findKey k0 k.toVal []).run P w = .ok none w := by
    unfold Instr.findKey
    simp only [Sem.run_bind, run_underlying (keyTy_desc hkt), Result.andThen_ok, Instr.findNow, Sem.run_pure]
  simp only [Sem.run_bind, run_underlying ht, Result.andThen_ok, Sem.run_pure, checkKey_run hkt _ hk]
  rw [hf]
  simp [hzr]
theorem mapTy_inv {t : TypeId} {p : Nat × TypeId} (h : mapTy P t = some p) : ∃ k0, P.underlying t = some (.map k0 p.2) ∧ keyTy P k0 = some p.1 := by
  unfold mapTy at h
  split at h
  · rename_i k0 e hu
    obtain ⟨kt, hkt, he⟩ := Option.map_eq_some_iff.1 h
    cases he
    exact ⟨k0, hu, hkt⟩
  · cases h
theorem reps_map {l : List V} (h : ∀ x ∈ l, Rep S w x.toVal x) : Reps S w (l.map V.toVal) l := by
  refine ⟨by simp, fun j u x hu hx => ?_⟩
  rw [List.getElem?_map, hx] at hu
  simp only [Option.map_some, Option.some.injEq] at hu
  subst hu
  exact h x (List.mem_of_getElem? hx)
theorem reps_uniq {us : List Value} : ∀ {us : List Value} {l : List V}, Reps S w us l → (∀ x ∈ l, x.uniq = true) → us = l.map V.toVal ∧ ∀ x ∈ l, Rep S w x.toVal x
  | [], [], _, _ => ⟨rfl, by simp⟩
  | [], _ :: _, h, _ => absurd h.1 (by simp)
  | _ :: _, [], h, _ => absurd h.1 (by simp)
  | u :: us, x :: l, h, hu => by
    obtain ⟨h1, h2⟩ := reps_uniq (us := us) h.tail fun y hy => hu y (List.mem_cons_of_mem _ hy)
    have hx := h.head.val (hu x (List.mem_cons_self ..))
    refine ⟨by rw [hx, h1]; rfl, fun y hy => ?_⟩
    rcases List.mem_cons.1 hy with rfl | hy
    · exact hx ▸ h.head
    · exact h2 y hy

theorem mapsR_sound {cf : Maps → Nat → List V → Option (V × Maps)} (hcf : ∀ s f zs y s', cf s f zs = some (y, s') → f ≠ LOOK → f ≠ UPD → f ≠ NILC → okFn P f = true ∧ okY y = true ∧ PFG P (mapsR P cf) f zs s y s') : SoundR P (mapsR P cf) := by
  intro s f zs y s' he0
  have he : mapEff P cf s f zs = some (y, s') := he0
  clear he0
  unfold mapEff at he
  unfold EffOK
  by_cases hL : f = LOOK
  · rw [if_pos hL] at he ⊢
    split at he
    · rename_i t q k
      simp only [Option.bind_eq_some_iff] at he
      obtain ⟨p, hp, z, hz, he⟩ := he
      split at he
      · rename_i hc
        simp only [Bool.and_eq_true, decide_eq_true_eq] at hc
        obtain ⟨k0, hu, hkt⟩ := mapTy_inv hp
        have htt : ((t.toNat : Nat) : Int) = t := Int.toNat_of_nonneg hc.1
        have key : y.cell = true → s' = s → (∀ (S F : Nat → Prop) (w : World), MapsOK s S F w → ∃ u, (Instr.lookup t.toNat (.map q) k.toVal false).run P w = .ok u w ∧ Rep S w u y) →
            s' = s ∧ y.smp = true ∧ y.isOwn = false ∧ ∃ (t' : Nat) (m kk : V), [V.i .i64 t, .mr q, k] = [.i .i64 (t' : Int), m, kk] ∧ ∀ (S F : Nat → Prop) (w : World) (um uk : Value), (mapsR P cf).R s S F w → Rep S w um m → Rep S w uk kk → ∃ u, (Instr.lookup t' um uk false).run P w = .ok u w ∧ Rep S w u y := by
          intro hcell hs hrun
          refine ⟨hs, ?_, ?_, t.toNat, .mr q, k, by rw [htt], fun S F w um uk hR hm hkk => ?_⟩
          · cases y <;> first | rfl | (simp [V.cell] at hcell; done)
          · cases y <;> first | rfl | (simp [V.cell] at hcell; done)
          · cases hm
            rw [hkk.val (keyB_uniq hc.2)]
            exact hrun S F w hR
        split at he
        · split at he
          · rename_i hcell
            simp only [Option.some.injEq, Prod.mk.injEq] at he
            obtain ⟨rfl, rfl⟩ := he
            exact key hcell rfl fun S F w _ => look0_run hu hkt hz hc.2
          · cases he
        · rename_i g
          simp only [Option.bind_eq_some_iff] at he
          obtain ⟨m, hm, he⟩ := he
          split at he
          · rename_i hc2
            simp only [Bool.and_eq_true] at hc2
            simp only [Option.some.injEq, Prod.mk.injEq] at he
            obtain ⟨rfl, rfl⟩ := he
            exact key hc2.2 rfl fun S F w hR => lookG_run hu hkt hz (hR.each _ (getM_mem hm)) hc.2 hc2.1
          · cases he
      · cases he
    · cases he
  · rw [if_neg hL] at he ⊢
    by_cases hU : f = UPD
    · rw [if_pos hU] at he ⊢
      split at he
      · rename_i t g k v
        simp only [Option.bind_eq_some_iff] at he
        obtain ⟨p, hp, m, hm, he⟩ := he
        split at he
        · rename_i hc
          simp only [Bool.and_eq_true, decide_eq_true_eq] at hc
          obtain ⟨⟨⟨⟨⟨ht0, hkk⟩, hks⟩, hvs⟩, hvu⟩, hvc⟩ := hc
          simp only [Option.some.injEq, Prod.mk.injEq] at he
          obtain ⟨rfl, rfl⟩ := he
          obtain ⟨k0, hu, hkt⟩ := mapTy_inv hp
          have htt : ((t.toNat : Nat) : Int) = t := Int.toNat_of_nonneg ht0
          refine ⟨t.toNat, .mr (some g), k, v, by rw [htt], rfl, fun S F w um uk ux hSF hR hm' hk' hx' => ?_⟩
          cases hm'
          have hR : MapsOK s S F w := hR
          obtain ⟨es, clock, hg, h1, h2, hv, h5, h6⟩ := hR.each _ (getM_mem hm)
          obtain ⟨hvals, hvr⟩ := reps_uniq (us := []) hv (fun x hx => List.all_eq_true.1 hvs x hx)
          obtain ⟨es', clock', hrun, r1, r2, r3, r4⟩ := update_run (x := v) hu hkt hg h1 hvals hkk hks h5 h6
          have hgl : g < w.heap.size := (Array.getElem?_eq_some_iff.1 hg).1
          have hFg : F g := (hR.dom g).2 ⟨_, getM_mem hm, rfl⟩
          have hoth : ∀ b, b ≠ g → (w.heap.setIfInBounds g (.map es' clock'))[b]? = w.heap[b]? := fun b hb => by rw [Array.getElem?_setIfInBounds]; simp [Ne.symm hb]
          have hnew : (w.heap.setIfInBounds g (.map es' clock'))[g]? = some (.map es' clock') := by rw [Array.getElem?_setIfInBounds]; simp [hgl]
          have hSo : ∀ b, S b → (w.heap.setIfInBounds g (.map es' clock'))[b]? = w.heap[b]? := fun b hb => hoth b fun e => hSF g hFg (e ▸ hb)
          refine ⟨{ w with heap := w.heap.setIfInBounds g (.map es' clock') }, ?_, ⟨rfl, rfl, rfl, by simp, fun b _ hb => hoth b fun e => hb (e ▸ hFg)⟩, by simp, ?_⟩
          · rw [hk'.val (keyB_uniq hkk), hx'.val hvu]; exact hrun
          · refine ⟨fun b => ?_, by rw [putM_fst]; exact hR.nodup, fun q hq => ?_⟩
            · rw [hR.dom]
              have := putM_fst (g := g) (ks := mkeys k m.1) (vs := mvals k v m.1 m.2) s
              constructor
              · rintro ⟨q, hq, rfl⟩
                have h : q.1 ∈ (putM g (mkeys k m.1) (mvals k v m.1 m.2) s).map (·.1) := by rw [this]; exact List.mem_map_of_mem hq
                obtain ⟨q', h1, h2⟩ := List.mem_map.1 h
                exact ⟨q', h1, h2⟩
              · rintro ⟨q, hq, rfl⟩
                have h : q.1 ∈ s.map (·.1) := by rw [← this]; exact List.mem_map_of_mem hq
                obtain ⟨q', h1, h2⟩ := List.mem_map.1 h
                exact ⟨q', h1, h2⟩
            · rcases putM_mem hR.nodup hq with rfl | ⟨hq1, hq2⟩
              · refine ⟨es', clock', hnew, r1, fun x hx => ?_, ?_, r3, r4⟩
                · rcases mkeys_mem hx with rfl | h
                  · exact keyB_uniq hkk
                  · exact h2 x h
                · rw [r2]
                  refine reps_map fun x hx => ?_
                  rcases mvals_mem hx with rfl | h
                  · exact rep_toVal hvu hvc
                  · exact (hvr x h).of_flat (uniq_flat x (List.all_eq_true.1 hvs x h))
              · exact (hR.each q hq1).move (fun _ h => h) hSo (hoth _ hq2)
        · cases he
      · cases he
    · rw [if_neg hU] at he ⊢
      by_cases hN : f = NILC
      · rw [if_pos hN] at he ⊢
        split at he
        · simp only [Option.some.injEq, Prod.mk.injEq] at he
          obtain ⟨rfl, rfl⟩ := he
          exact ⟨rfl, _, rfl, rfl⟩
        · cases he
      · rw [if_neg hN] at he ⊢
        exact hcf s f zs y s' he hL hU hN
/-- One map more, at a block that held none. -/
def addM (s : Maps) (g : Nat) (ks vs : List V) : Option Maps := if (getM g s).isNone = true then some ((g, ks, vs) :: s) else none
theorem mapsR_ad {cf : Maps → Nat → List V → Option (V × Maps)} : AdOK (mapsR P cf) addM := by
  intro s S F w g ks vs es clock hR hg hh h1 h2 h3 h4 h5 h6 h7
  have hR : MapsOK s S F w := hR
  have hnone : getM g s = none := by
    cases h : getM g s with
    | none => rfl
    | some m => exact absurd ((hR.dom g).2 ⟨_, getM_mem h, rfl⟩) hg
  refine ⟨(g, ks, vs) :: s, by simp [addM, hnone], fun b => ⟨fun h => ?_, fun ⟨p, hp, e⟩ => ?_⟩, ?_, fun p hp => ?_⟩
  · rcases h with h | h
    · obtain ⟨p, hp, e⟩ := (hR.dom b).1 h
      exact ⟨p, List.mem_cons_of_mem _ hp, e⟩
    · exact ⟨_, List.mem_cons_self .., h.symm⟩
  · rcases List.mem_cons.1 hp with rfl | hp
    · exact .inr e.symm
    · exact .inl ((hR.dom b).2 ⟨p, hp, e⟩)
  · rw [List.map_cons, List.nodup_cons]
    refine ⟨fun h => ?_, hR.nodup⟩
    obtain ⟨p, hp, e⟩ := List.mem_map.1 h
    exact hg ((hR.dom g).2 ⟨p, hp, e⟩)
  · rcases List.mem_cons.1 hp with rfl | hp
    · exact ⟨es, clock, hh, h1, h3, by rw [h2]; exact reps_map fun x hx => rep_toVal (h4 x hx) (h5 x hx), h6, h7⟩
    · exact hR.each p hp
theorem mapsR_start {cf : Maps → Nat → List V → Option (V × Maps)} (S : Nat → Prop) (w : World) : (mapsR P cf).R [] S (fun _ => False) w := ⟨fun b => ⟨fun h => h.elim, fun ⟨p, hp, _⟩ => by cases hp⟩, List.nodup_nil, fun p hp => by cases hp⟩
end
/-! ### The code, stretch by stretch -/
section
variable {σ : Type} {ρ : Rs σ} {ad : σ → Nat → List V → List V → Option σ} {P : Program} {o : Orc} {env env1 : Env} {s s1 : σ} {K : Ex → Env → σ → Prop}
theorem WG.seqC {x : C} {b : NG} (h : exec o x env = some (.n, env1)) (hW : WG ρ ad P o b env1 s K) : WG ρ ad P o (.seq (.c x) b) env s K := ⟨_, _, h, hW⟩
theorem WG.seqX {x : C} {b : NG} {e : Ex} (h : exec o x env = some (e, env1)) (he : e ≠ .n) (hW : K e env1 s) : WG ρ ad P o (.seq (.c x) b) env s K := by
  refine ⟨_, _, h, ?_⟩
  cases e with
  | n => exact absurd rfl he
  | e j => exact hW
  | r => exact hW
theorem WG.endC {x : C} {e : Ex} (h : exec o x env = some (e, env1)) (hW : K e env1 s) : WG ρ ad P o (.c x) env s K := ⟨_, _, h, hW⟩
theorem WG.seqL {ss : List RSt} {ks : List Nat} {b : NG} (h : stepsR ρ o ss env s = some (env1, s1)) (hW : WG ρ ad P o b (dropE ks env1) s1 K) : WG ρ ad P o (.seq (.lin ss ks) b) env s K := ⟨_, _, h, hW⟩
theorem WG.seq' {a b : NG} (h : WG ρ ad P o a env s fun e env1 s1 => match e with
    | .n => WG ρ ad P o b env1 s1 K
    | .e j => K (.e j) env1 s1
    | .r => K .r env1 s1) : WG ρ ad P o (.seq a b) env s K := h
theorem WG.blk' {id : Nat} {a : NG} (h : WG ρ ad P o a env s fun e env1 s1 => match e with
    | .e j => if j = id then K .n env1 s1 else K (.e j) env1 s1
    | .n => K .n env1 s1
    | .r => K .r env1 s1) : WG ρ ad P o (.blk id a) env s K := h
theorem WG.condT {x : X} {a b : NG} (h : evalX o env x = some (.b true)) (hW : WG ρ ad P o a env s K) : WG ρ ad P o (.cond x a b) env s K := ⟨true, h, hW⟩
theorem WG.condF {x : X} {a b : NG} (h : evalX o env x = some (.b false)) (hW : WG ρ ad P o b env s K) : WG ρ ad P o (.cond x a b) env s K := ⟨false, h, hW⟩
end
end Go.VM
/-
  Stretches of code that are walked by hand beside those that the evaluator carries out; maps whose entries are any values. No program is named here.
-/
namespace Go.VM
open Go.RowKit
variable [Glob]

section
variable {P : Program}
/-- A region that draws its order, by what holds of the world and the frame once some operations have been carried out. -/
theorem walkI {opsL : List Oper} {Q : Exit → Act → World → Prop} (Inv : Array Bool → Act → World → Prop)
    (hwt : ∀ (i : Nat) op, opsL[i]? = some op → ∀ l : Array Bool, l.size = opsL.length → ¬ Ex1 l i → (∀ j ∈ aft op, Ex1 l j) → (∀ (k : Nat) op', opsL[k]? = some op' → Ex1 l k → ∀ j ∈ aft op', Ex1 l j) → ∀ a w, Inv l a w →
      Region.wanted op (yielded opsL.toArray a.tmps) = true ∧ Outc P ((execOp a.eval op).run P w) fun u w1 => Inv (l.setIfInBounds i true) (a.put op.dst u) w1)
    (hacy : ∀ (i : Nat) op, opsL.toArray[i]? = some op → ∀ j ∈ aft op, j < i) :
    ∀ (fuel : Nat) (listed : Array Bool) (a : Act) (w : World), listed.size = opsL.length → left1 listed ≤ fuel → (∀ (k : Nat) op', opsL[k]? = some op' → Ex1 listed k → ∀ j ∈ aft op', Ex1 listed j) → Inv listed a w →
      (∀ l a' w', (∀ i, i < opsL.length → Ex1 l i) → Inv l a' w' → Q .normal a' w') → wpAny P .any opsL.toArray Q fuel listed a w := by
  intro fuel
  induction fuel with
  | zero =>
    intro listed a w hs hleft hcl hF hQ
    have hall : ∀ i, i < opsL.length → Ex1 listed i := fun i hi => all_of_left (by omega) i (by omega)
    refine ⟨?_, hQ listed a w hall hF⟩
    cases hr : Region.ready .any opsL.toArray listed with
    | nil => rfl
    | cons i r =>
      obtain ⟨op, hop, hne, _⟩ := mem_ready (by simpa using hs) (show i ∈ Region.ready .any opsL.toArray listed by rw [hr]; exact List.mem_cons_self ..)
      exact absurd (hall i (by have := (Array.getElem?_eq_some_iff.1 hop).1; simpa using this)) hne
  | succ fuel ih =>
    intro listed a w hs hleft hcl hF hQ
    refine ⟨fun hr => hQ listed a w (fun i hi => not_ready (by simpa using hs) hacy hr i (by simpa using hi)) hF, fun i hi => ?_⟩
    obtain ⟨op, hop, hne, haft⟩ := mem_ready (by simpa using hs) hi
    have hop' : opsL[i]? = some op := by simpa using hop
    have hil : i < opsL.length := (List.getElem?_eq_some_iff.1 hop').1
    have his : i < listed.size := by omega
    obtain ⟨hw, hout⟩ := hwt i op hop' listed hs hne haft hcl a w hF
    have next : ∀ u w1, Inv (listed.setIfInBounds i true) (a.put op.dst u) w1 → wpAny P .any opsL.toArray Q fuel (listed.setIfInBounds i true) (a.put op.dst u) w1 := by
      intro u w1 h
      refine ih _ _ w1 (by simpa using hs) ?_ (fun k op' hk hek j hj => ?_) h hQ
      · have := left1_set his hne; omega
      · refine (ex1_set his j).2 (.inr ?_)
        rcases (ex1_set his k).1 hek with rfl | h
        · rw [hop'] at hk; cases hk; exact haft j hj
        · exact hcl k op' hk h j hj
    unfold wpOp
    rw [hop]
    simp only
    rw [if_pos hw]
    left
    refine Outc.wp ?_
    revert hout
    generalize (execOp a.eval op).run P w = res
    intro hout
    unfold Outc at hout ⊢
    split at hout
    · exact next _ _ hout
    · exact next _ _ hout
    · exact hout.mono fun e w1 ⟨u, he, h⟩ => ⟨u, he, next _ _ h⟩
    · exact hout.elim
theorem regI (hm : P.follows .mixedOrders = true) {id : Nat} {ops : Array Oper} (Inv : Array Bool → Act → World → Prop)
    (hwt : ∀ (i : Nat) op, ops.toList[i]? = some op → ∀ l : Array Bool, l.size = ops.toList.length → ¬ Ex1 l i → (∀ j ∈ aft op, Ex1 l j) → (∀ (k : Nat) op', ops.toList[k]? = some op' → Ex1 l k → ∀ j ∈ aft op', Ex1 l j) → ∀ a w, Inv l a w →
      Region.wanted op (yielded ops.toList.toArray a.tmps) = true ∧ Outc P ((execOp a.eval op).run P w) fun u w1 => Inv (l.setIfInBounds i true) (a.put op.dst u) w1)
    (hacy : ((List.range ops.size).all fun i => match ops[i]? with | some o => (aft o).all fun j => decide (j < i) | none => false) = true) {a : Act} {w : World}
    (hF : Inv (Array.replicate ops.size false) a { w with drawn := w.drawn + 1 }) {Q : Exit → Act → World → Prop} (hQ : ∀ l a' w', (∀ i, i < ops.size → Ex1 l i) → Inv l a' w' → Q .normal a' w') :
    (Code.region id ops true).wp P Q a w := by
  refine wp_region_any hm ?_
  have hn1 : ∀ k, ¬ Ex1 (Array.replicate ops.size false) k := fun k hk => by
    unfold Ex1 at hk
    simp only [Array.getD_eq_getD_getElem?, Array.getElem?_replicate] at hk
    split at hk <;> simp at hk
  have hleft : left1 (Array.replicate ops.size false) ≤ ops.size := by
    unfold left1
    exact Nat.le_trans (List.countP_le_length ..) (by simp)
  have := walkI (Q := Q) (opsL := ops.toList) Inv hwt (fun i op hop j hj => by
      have hop' : ops[i]? = some op := by simpa using hop
      have := List.all_eq_true.1 hacy i (List.mem_range.2 (Array.getElem?_eq_some_iff.1 hop').1)
      rw [hop'] at this
      simpa using List.all_eq_true.1 this j hj) ops.size (Array.replicate ops.size false) a { w with drawn := w.drawn + 1 } (by simp) hleft
    (fun k _ _ hk => absurd hk (hn1 k)) hF (fun l a' w' hl h => hQ l a' w' (fun i hi => hl i (by simpa using hi)) h)
  simpa using this
end

section
variable {P : Program} {nt : Nat} {keep : List Nat} {S : Nat → Prop} {base : Nat} {wi : World} {env : Env} {a a' : Act} {w : World}
/-- Slots that the frame does not tell of have no say. -/
theorem FI.agree (hF : FI P nt keep S base wi env a w) (hs : a'.tmps.size = nt) (hd : a'.defers = []) (hT : ∀ n x, get n env = some x → tm a' n = tm a n) : FI P nt keep S base wi env a' w := by
  obtain ⟨Im, hI1, hI2, hE⟩ := hF.ents
  have hO : ∀ n c g, Owns env (tm a') n c g → Owns env (tm a) n c g := fun n c g ho => by
    cases c with
    | none =>
      obtain ⟨x, u, hx, h1, h2, h3⟩ := ho
      exact ⟨x, u, hx, h1, (hT n x hx).symm.trans h2, h3⟩
    | some j =>
      obtain ⟨ys, us, y, u, hx, h1, h2⟩ := ho
      exact ⟨ys, us, y, u, hx, (hT n _ hx).symm.trans h1, h2⟩
  refine ⟨hF.srt, hs, hd, hF.below, hF.kept, hF.bsz, hF.keys, Im, hI1, hI2, ⟨fun n x hx => ?_, hE.closed, fun n c n' c' g h h' => hE.apart n c n' c' g (hO _ _ _ h) (hO _ _ _ h'), hE.glob⟩⟩
  obtain ⟨u, hu, he⟩ := hE.ent n x hx
  have hnm : ∀ m, x.names = some m → tm a' m = tm a m := fun m hm => by
    obtain ⟨y, hy, _⟩ := hE.closed n x m hx hm
    exact hT m y hy
  refine ⟨u, (hT n x hx).trans hu, ?_⟩
  cases x with
  | al m => exact (hnm m rfl).trans he
  | pe m i off sz =>
    obtain ⟨ad, l, c, k, h1, h2⟩ := he
    exact ⟨ad, l, c, k, (hnm m rfl).trans h1, h2⟩
  | pb m off sz =>
    obtain ⟨ad, h1, h2⟩ := he
    exact ⟨ad, (hnm m rfl).trans h1, h2⟩
  | _ => exact he

/-! ### Stretches, one behind the other -/
variable {σ : Type} {ρ : Rs σ} {S0 F0 : Nat → Prop} {w00 : World} {gr : Bool} {W1 W2 : Env → σ → (Ex → Env → σ → Prop) → Prop} {c1 c2 : Code}
theorem DoesG.seq (h1 : DoesG ρ P nt keep S0 F0 w00 gr W1 c1) (h2 : DoesG ρ P nt keep S0 F0 w00 gr W2 c2) : DoesG ρ P nt keep S0 F0 w00 gr (fun env s K => W1 env s fun e env1 s1 => match e with
    | .n => W2 env1 s1 K
    | .e j => K (.e j) env1 s1
    | .r => K .r env1 s1) (.seq c1 c2) := by
  intro env s K hW a w hF Q hQ
  refine wp_seq (h1 env s _ hW a w hF _ fun ex env1 s' a1 w1 hK hF1 => ?_)
  cases ex with
  | n => exact h2 env1 s' _ hK a1 w1 hF1 Q hQ
  | e j => exact hQ (.e j) env1 s' a1 w1 hK hF1
  | r => exact hQ .r env1 s' a1 w1 hK hF1
theorem DoesG.blk (id : Nat) (h1 : DoesG ρ P nt keep S0 F0 w00 gr W1 c1) : DoesG ρ P nt keep S0 F0 w00 gr (fun env s K => W1 env s fun e env1 s1 => match e with
    | .e j => if j = id then K .n env1 s1 else K (.e j) env1 s1
    | .n => K .n env1 s1
    | .r => K .r env1 s1) (.block id c1) := by
  intro env s K hW a w hF Q hQ
  refine wp_block (h1 env s _ hW a w hF _ fun ex env1 s' a1 w1 hK hF1 => ?_)
  cases ex with
  | n => exact hQ .n env1 s' a1 w1 hK hF1
  | e j =>
    show Exit.inBlock id Q (.exit j) a1 w1
    simp only [Exit.inBlock]
    simp only at hK
    by_cases hj : j = id
    · rw [if_pos hj] at hK ⊢; exact hQ .n env1 s' a1 w1 hK hF1
    · rw [if_neg hj] at hK ⊢; exact hQ (.e j) env1 s' a1 w1 hK hF1
  | r => exact hQ .r env1 s' a1 w1 hK hF1
/-- A loop of just so many rounds, by what holds ahead of each. -/
theorem DoesG.loop (kin : List Nat) (h1 : DoesG ρ P nt keep S0 F0 w00 gr W1 c1) : DoesG ρ P nt keep S0 F0 w00 gr (fun env s K => ∃ (I : Nat → Env → σ → Prop) (n : Nat), I n env s ∧ ∀ n env s, I n env s → W1 (VM.keepE kin env) s fun e env1 s1 => match e with
    | .n => ∃ k, n = k + 1 ∧ I k env1 s1
    | .e j => K (.e j) env1 s1
    | .r => K .r env1 s1) (.loop c1) := by
  rintro env s K ⟨I, n, hI, hI2⟩ a w hF Q hQ
  refine wp_loop_rounds (n + 1) ?_
  induction n generalizing env s a w with
  | zero =>
    refine h1 _ s _ (hI2 0 env s hI) a w (hF.keepE _) _ fun ex env1 s' a1 w1 hK hF1 => ?_
    cases ex with
    | n => obtain ⟨k, hk, _⟩ := hK; omega
    | e j => exact hQ (.e j) env1 s' a1 w1 hK hF1
    | r => exact hQ .r env1 s' a1 w1 hK hF1
  | succ n ih =>
    refine h1 _ s _ (hI2 (n + 1) env s hI) a w (hF.keepE _) _ fun ex env1 s' a1 w1 hK hF1 => ?_
    cases ex with
    | n =>
      obtain ⟨k, hk, hI'⟩ := hK
      obtain rfl : n = k := by omega
      exact ih env1 s' hI' a1 w1 hF1
    | e j => exact hQ (.e j) env1 s' a1 w1 hK hF1
    | r => exact hQ .r env1 s' a1 w1 hK hF1
end

/-! ### Maps whose entries are any values -/
section
variable {P : Program} {w : World}
/-- A key among keys: where it stands, and what a store there leaves. -/
theorem find_put {kt : Nat} {k : V} (hk : keyB kt k = true) : ∀ {ks vs : List V} {es : List MapEntry} (i : Nat), es.map (·.key) = ks.map V.toVal → es.length = vs.length → ks.all (keyB kt) = true →
    (mfind k ks vs = none ∧ Instr.findNow (keyDesc kt) k.toVal es i = some none ∧ mkeys k ks = ks ++ [k] ∧ ∀ x, mvals k x ks vs = vs ++ [x]) ∨
    ∃ (j : Nat) (e : MapEntry) (r : V), mfind k ks vs = some r ∧ Instr.findNow (keyDesc kt) k.toVal es i = some (some (i + j, e.val)) ∧ es[j]? = some e ∧ vs[j]? = some r ∧ ks[j]? = some k ∧ mkeys k ks = ks ∧ ∀ x, mvals k x ks vs = vs.set j x
  | [], [], [], i, _, _, _ => .inl ⟨rfl, rfl, rfl, fun _ => rfl⟩
  | x :: ks, y :: vs, e :: es, i, h1, h2, h3 => by
    simp only [List.map_cons, List.cons.injEq] at h1
    simp only [List.length_cons, Nat.add_right_cancel_iff] at h2
    simp only [List.all_cons, Bool.and_eq_true] at h3
    have hs := sameNow_eq hk h3.1
    cases hq : keyEq k x with
    | true =>
      have := keyEq_eq hk h3.1 hq
      subst this
      refine .inr ⟨0, e, y, by simp [mfind, hq], ?_, rfl, rfl, rfl, by simp [mkeys, hq], fun z => by simp [mvals, hq]⟩
      simp only [Instr.findNow, h1.1, hs, hq, Nat.add_zero]
    | false =>
      have hm : mfind k (x :: ks) (y :: vs) = mfind k ks vs := by simp [mfind, hq]
      have hf : Instr.findNow (keyDesc kt) k.toVal (e :: es) i = Instr.findNow (keyDesc kt) k.toVal es (i + 1) := by simp only [Instr.findNow, h1.1, hs, hq]
      rw [hm, hf]
      rcases find_put hk (i + 1) h1.2 h2 h3.2 with ⟨g1, g2, g3, g4⟩ | ⟨j, e', r, g1, g2, g3, g4, g5, g6, g7⟩
      · exact .inl ⟨g1, g2, by simp [mkeys, hq, g3], fun z => by simp [mvals, hq, g4]⟩
      · exact .inr ⟨j + 1, e', r, g1, by rw [g2]; congr 3; omega, g3, g4, g5, by simp [mkeys, hq, g6], fun z => by simp [mvals, hq, g7]⟩
  | [], y :: vs, [], i, _, h2, _ => by simp at h2
  | [], _, e :: es, i, h1, _, _ => by simp at h1
  | x :: ks, _, [], i, h1, _, _ => by simp at h1
  | x :: ks, [], e :: es, i, _, h2, _ => by simp at h2
/-- What stands at a key behind a store. -/
theorem mfind_put {kt : Nat} {k k' x : V} (hk : keyB kt k = true) (hk' : keyB kt k' = true) : ∀ {ks vs : List V}, ks.length = vs.length → ks.all (keyB kt) = true → mfind k' (mkeys k ks) (mvals k x ks vs) = if keyEq k' k = true then some x else mfind k' ks vs
  | [], [], _, _ => by simp only [mkeys, mvals, mfind]
  | y :: ks, z :: vs, h, h3 => by
    simp only [List.all_cons, Bool.and_eq_true] at h3
    simp only [List.length_cons, Nat.add_right_cancel_iff] at h
    cases hq : keyEq k y with
    | true =>
      have := keyEq_eq hk h3.1 hq
      subst this
      simp only [mkeys, mvals, hq, if_true, mfind]
      split <;> simp_all
    | false =>
      have ih := mfind_put (x := x) hk hk' h h3.2
      simp only [mkeys, mvals, hq, Bool.false_eq_true, if_false, mfind]
      rw [ih]
      cases h1 : keyEq k' y with
      | true =>
        have := keyEq_eq hk' h3.1 h1
        subst this
        have hne : keyEq k' k = false := by
          cases h2 : keyEq k' k with
          | false => rfl
          | true =>
            have := keyEq_eq hk' hk h2
            subst this
            rw [h1] at hq; cases hq
        simp [hne]
      | false => simp
  | [], z :: vs, h, _ => by simp at h
  | y :: ks, [], h, _ => by simp at h
theorem mkeys_all {kt : Nat} {k : V} (hk : keyB kt k = true) : ∀ {ks : List V}, ks.all (keyB kt) = true → (mkeys k ks).all (keyB kt) = true
  | [], _ => by simp [mkeys, hk]
  | y :: ks, h => by
    simp only [List.all_cons, Bool.and_eq_true] at h
    simp only [mkeys]
    split
    · simp [h.1, h.2]
    · simp [h.1, mkeys_all hk h.2]
theorem mlen_put {k x : V} : ∀ {ks vs : List V}, ks.length = vs.length → (mkeys k ks).length = (mvals k x ks vs).length
  | [], [], _ => rfl
  | y :: ks, z :: vs, h => by
    simp only [List.length_cons, Nat.add_right_cancel_iff] at h
    simp only [mkeys, mvals]
    split
    · simp [h]
    · have := mlen_put (k := k) (x := x) h
      simp [this]
  | [], z :: vs, h => by simp at h
  | y :: ks, [], h => by simp at h
/-- A store of any value into a map. -/
theorem updG_run {t k0 e : TypeId} {kt : Nat} (ht : P.underlying t = some (.map k0 e)) (hkt : keyTy P k0 = some kt) {g : Nat} {es : Array MapEntry} {clock : Nat} (hg : w.heap[g]? = some (.map es clock))
    {ks vs : List V} (h1 : es.toList.map (·.key) = ks.map V.toVal) (h2 : es.toList.length = vs.length) {k : V} (hk : keyB kt k = true) (h3 : ks.all (keyB kt) = true) (h7 : (es.toList.map (·.born)).Nodup) (h8 : ∀ x ∈ es.toList, x.born < clock) (v : Value) (x : V) :
    ∃ (es' : Array MapEntry) (clock' : Nat), (Instr.mapUpdate t (.map (some g)) k.toVal v).run P w = .ok () { w with heap := w.heap.setIfInBounds g (.map es' clock') } ∧
      es'.toList.map (·.key) = (mkeys k ks).map V.toVal ∧ es'.toList.length = (mvals k x ks vs).length ∧ (es'.toList.map (·.born)).Nodup ∧ (∀ x ∈ es'.toList, x.born < clock') ∧
      ((mfind k ks vs = none ∧ es'.toList.map (·.val) = es.toList.map (·.val) ++ [v] ∧ mvals k x ks vs = vs ++ [x]) ∨ ∃ j, j < es.toList.length ∧ (∃ e r, es.toList[j]? = some e ∧ vs[j]? = some r ∧ mfind k ks vs = some r ∧ Instr.findNow (keyDesc kt) k.toVal es.toList 0 = some (some (j, e.val))) ∧ es'.toList.map (·.val) = (es.toList.map (·.val)).set j v ∧ mvals k x ks vs = vs.set j x) := by
  have hf : ∀ r, Instr.findNow (keyDesc kt) k.toVal es.toList 0 = some r → (Instr.findKey k0 k.toVal es.toList).run P w = .ok r w := fun r hr => by
    unfold Instr.findKey
    simp only [Sem.run_bind, run_underlying (keyTy_desc hkt), Result.andThen_ok, hr, Sem.run_pure]
  rcases find_put hk 0 h1 h2 h3 with ⟨r1, r2, r3, r4⟩ | ⟨j, en, r, r1, r2, r3, r4, r5, r6, r7⟩
  · refine ⟨es.push { key := k.toVal, val := v, born := clock }, clock + 1, ?_, ?_, ?_, ?_, fun y hy => ?_, .inl ⟨r1, by simp, r4 x⟩⟩
    · unfold Instr.mapUpdate
      simp only [Sem.run_bind, run_underlying ht, Result.andThen_ok, getMap_run hg, checkKey_run hkt _ hk, hf _ r2, setMap_run _ hg]
    · simp [r3, h1]
    · rw [r4]; simpa using h2
    · simp only [Array.toList_push, List.map_append, List.map_cons, List.map_nil]
      refine List.nodup_append.2 ⟨h7, by simp, fun a ha b hb => ?_⟩
      obtain ⟨z, hz, rfl⟩ := List.mem_map.1 ha
      simp only [List.mem_singleton] at hb
      have := h8 z hz
      omega
    · simp only [Array.toList_push, List.mem_append, List.mem_singleton] at hy
      rcases hy with hy | rfl
      · have := h8 y hy; omega
      · exact Nat.lt_succ_self _
  · rw [Nat.zero_add] at r2
    have hlt : j < es.toList.length := (List.getElem?_eq_some_iff.1 r3).1
    have hlt' : j < es.size := by simpa using hlt
    have hkey : es[j].key = k.toVal := by
      have := congrArg (fun l => l[j]?) h1
      simp only [List.getElem?_map, r5, Option.map_some] at this
      simpa [hlt'] using this
    have hbn : (es.modify j fun e => { e with key := k.toVal, val := v }).toList.map (·.born) = es.toList.map (·.born) := by
      apply List.ext_getElem?
      intro i
      simp only [List.getElem?_map, Array.getElem?_toList, Array.getElem?_modify]
      by_cases hi : j = i
      · subst hi; simp [hlt']
      · simp [hi]
    refine ⟨es.modify j fun e => { e with key := k.toVal, val := v }, clock, ?_, ?_, ?_, by rw [hbn]; exact h7, fun y hy => ?_, .inr ⟨j, hlt, ⟨en, r, r3, r4, r1, r2⟩, ?_, r7 x⟩⟩
    · unfold Instr.mapUpdate
      simp only [Sem.run_bind, run_underlying ht, Result.andThen_ok, getMap_run hg, checkKey_run hkt _ hk, hf _ r2]
      have : ((es[j]?).map (·.key)).getD k.toVal = k.toVal := by simp [hlt', hkey]
      rw [this]
      simp only [Instr.keyThatStays, sameBits_refl hk, if_true, Sem.run_pure, Result.andThen_ok, setMap_run _ hg]
    · rw [r6, ← h1]
      apply List.ext_getElem?
      intro i
      simp only [List.getElem?_map, Array.getElem?_toList, Array.getElem?_modify]
      by_cases hi : j = i
      · subst hi; simp [hlt', hkey]
      · simp [hi]
    · rw [r7]; simpa using h2
    · have hy' : y.born ∈ es.toList.map (·.born) := by rw [← hbn]; exact List.mem_map.2 ⟨y, hy, rfl⟩
      obtain ⟨z, hz, he⟩ := List.mem_map.1 hy'
      have := h8 z hz
      omega
    · apply List.ext_getElem?
      intro i
      simp only [List.getElem?_map, Array.getElem?_toList, Array.getElem?_modify, List.getElem?_set]
      by_cases hi : j = i
      · subst hi; simp [hlt']
      · simp [hi]
end
end Go.VM
/-
  A region that draws its order and whose operations yield the same values in whatever order: by what the world holds at each stage. No program is named here.
-/
namespace Go.VM
open Go.RowKit
section
variable {P : Program}
/-- What the slots hold once some of a region's operations have been carried out. -/
def TmOk (ds : Nat → Option Nat) (val : Nat → Value) (a0 : Act) (l : Array Bool) (a : Act) : Prop :=
  a.tmps.size = a0.tmps.size ∧ a.defers = a0.defers ∧ (∀ i n, Ex1 l i → ds i = some n → tm a n = some (val i)) ∧ ∀ n, (∀ i, Ex1 l i → ds i ≠ some n) → tm a n = tm a0 n
theorem Outc.imp {r : Result Next} {K K' : Value → World → Prop} (h : Outc P r K) (hK : ∀ u w, K u w → K' u w) : Outc P r K' := by
  unfold Outc at *
  split at h
  · exact hK _ _ h
  · exact hK _ _ h
  · exact h.mono fun e w' ⟨v, he, hv⟩ => ⟨v, he, hK _ _ hv⟩
  · exact h.elim
theorem regV [Glob] (hm : P.follows .mixedOrders = true) {id : Nat} {ops : Array Oper} {ds : Nat → Option Nat} {val : Nat → Value} {a0 : Act} (Wd : Array Bool → World → Prop)
    (hinj : ∀ i j n, ds i = some n → ds j = some n → i = j) (hlt : ∀ i n, ds i = some n → n < a0.tmps.size)
    (hds : ∀ (i : Nat) op, ops.toList[i]? = some op → op.dst = ds i ∧ op.guard = none)
    (hop : ∀ (i : Nat) op, ops.toList[i]? = some op → ∀ l : Array Bool, l.size = ops.toList.length → ¬ Ex1 l i → (∀ j ∈ aft op, Ex1 l j) → (∀ (k : Nat) op', ops.toList[k]? = some op' → Ex1 l k → ∀ j ∈ aft op', Ex1 l j) → ∀ a w, TmOk ds val a0 l a → Wd l w →
      Outc P ((execOp a.eval op).run P w) fun u w1 => (ds i = none ∨ u = val i) ∧ Wd (l.setIfInBounds i true) w1)
    (hacy : ((List.range ops.size).all fun i => match ops[i]? with | some o => (aft o).all fun j => decide (j < i) | none => false) = true) {w : World}
    (hF : Wd (Array.replicate ops.size false) { w with drawn := w.drawn + 1 }) {Q : Exit → Act → World → Prop} (hQ : ∀ l a' w', (∀ i, i < ops.size → Ex1 l i) → TmOk ds val a0 l a' → Wd l w' → Q .normal a' w') :
    (Code.region id ops true).wp P Q a0 w := by
  refine regI hm (fun l a w => TmOk ds val a0 l a ∧ Wd l w) (fun i op hi l hl hne haft hcl a w ⟨hT, hW⟩ => ?_) hacy ⟨⟨rfl, rfl, fun i n h => ?_, fun n _ => rfl⟩, hF⟩ (fun l a' w' hl h => hQ l a' w' hl h.1 h.2)
  · obtain ⟨hd, hg⟩ := hds i op hi
    refine ⟨by simp [Region.wanted, hg], (hop i op hi l hl hne haft hcl a w hT hW).imp fun u w1 ⟨hu, hw⟩ => ⟨?_, hw⟩⟩
    have hil : i < l.size := by rw [hl]; exact (List.getElem?_eq_some_iff.1 hi).1
    rw [hd]
    cases hdi : ds i with
    | none =>
      refine ⟨hT.1, hT.2.1, fun k n hk hn => ?_, fun n hn => ?_⟩
      · rcases (ex1_set hil k).1 hk with rfl | hk
        · rw [hdi] at hn; cases hn
        · exact hT.2.2.1 k n hk hn
      · exact hT.2.2.2 n fun k hk => hn k ((ex1_set hil k).2 (.inr hk))
    | some d =>
      have hda : d < a.tmps.size := by rw [hT.1]; exact hlt i d hdi
      have hu : u = val i := by
        rcases hu with h | h
        · rw [hdi] at h; cases h
        · exact h
      subst hu
      refine ⟨by simpa [Act.put] using hT.1, hT.2.1, fun k n hk hn => ?_, fun n hn => ?_⟩
      · rw [tm_put hda]
        rcases (ex1_set hil k).1 hk with rfl | hk
        · rw [hdi] at hn; cases hn; simp
        · rw [if_neg fun e => by subst e; exact hne (hinj i k n hdi hn ▸ hk)]
          exact hT.2.2.1 k n hk hn
      · rw [tm_put hda, if_neg fun e => hn i ((ex1_set hil i).2 (.inl rfl)) (by rw [hdi, e])]
        exact hT.2.2.2 n fun k hk => hn k ((ex1_set hil k).2 (.inr hk))
  · unfold Ex1 at h
    simp only [Array.getD_eq_getD_getElem?, Array.getElem?_replicate] at h
    split at h <;> simp at h
/-- The slots, once all has been carried out: as if the operations had been carried out one behind the other. -/
theorem TmOk.all [Glob] {ds : Nat → Option Nat} {val : Nat → Value} {a0 : Act} {l : Array Bool} {a : Act} (h : TmOk ds val a0 l a) {n : Nat} (hl : ∀ i, i < n → Ex1 l i) (hn : ∀ i, n ≤ i → ds i = none) (hinj : ∀ i j n, ds i = some n → ds j = some n → i = j) (hlt : ∀ i n, ds i = some n → n < a0.tmps.size) :
    a = (List.range n).foldl (fun a i => a.put (ds i) (val i)) a0 := by
  have key : ∀ m, m ≤ n → ∃ b : Act, b = (List.range m).foldl (fun a i => a.put (ds i) (val i)) a0 ∧ b.tmps.size = a0.tmps.size ∧ b.defers = a0.defers ∧ (∀ i k, i < m → ds i = some k → tm b k = some (val i)) ∧ ∀ k, (∀ i, i < m → ds i ≠ some k) → tm b k = tm a0 k := by
    intro m
    induction m with
    | zero => exact fun _ => ⟨_, rfl, rfl, rfl, fun i k hi => by omega, fun _ _ => rfl⟩
    | succ m ih =>
      intro hm
      obtain ⟨b, hb, b1, b2, b3, b4⟩ := ih (by omega)
      refine ⟨b.put (ds m) (val m), by rw [List.range_succ, List.foldl_append, ← hb]; rfl, ?_, ?_, fun i k hi hk => ?_, fun k hk => ?_⟩
      · cases ds m <;> simpa [Act.put] using b1
      · cases ds m <;> exact b2
      · cases hd : ds m with
        | none =>
          by_cases him : i = m
          · subst him; rw [hd] at hk; cases hk
          · exact b3 i k (by omega) hk
        | some d =>
          rw [tm_put (by rw [b1]; exact hlt m d hd)]
          by_cases him : i = m
          · subst him; rw [hd] at hk; cases hk; simp
          · rw [if_neg fun e => him (hinj i m k hk (by rw [hd, e]))]
            exact b3 i k (by omega) hk
      · cases hd : ds m with
        | none => exact b4 k fun i hi => hk i (by omega)
        | some d =>
          rw [tm_put (by rw [b1]; exact hlt m d hd), if_neg fun e => hk m (by omega) (by rw [hd, e])]
          exact b4 k fun i hi => hk i (by omega)
  obtain ⟨b, hb, b1, b2, b3, b4⟩ := key n (Nat.le_refl _)
  rw [← hb]
  have ht : a.tmps = b.tmps := by
    apply Array.ext (by rw [h.1, b1])
    intro k hk1 hk2
    have hkk : tm a k = tm b k := by
      by_cases hex : ∃ i, i < n ∧ ds i = some k
      · obtain ⟨i, hi, hd⟩ := hex
        rw [h.2.2.1 i k (hl i hi) hd, b3 i k hi hd]
      · have hin : ∀ i, ds i = some k → i < n := fun i hd => by
          rcases Nat.lt_or_ge i n with h1 | h1
          · exact h1
          · rw [hn i h1] at hd; cases hd
        rw [h.2.2.2 k fun i _ hd => hex ⟨i, hin i hd, hd⟩, b4 k fun i hi hd => hex ⟨i, hi, hd⟩]
    unfold tm at hkk
    rw [Array.getElem?_eq_getElem hk1, Array.getElem?_eq_getElem hk2] at hkk
    exact Option.some.inj hkk
  have hd : a.defers = b.defers := h.2.1.trans b2.symm
  cases a; cases b
  simp only at ht hd
  rw [ht, hd]
end
end Go.VM
