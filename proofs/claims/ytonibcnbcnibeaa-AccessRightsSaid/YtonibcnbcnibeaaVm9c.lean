/-
  Steps: copies, assignments, quiet operations. No program is named here.
-/
import Derived.Test.YtonibcnbcnibeaaVm9b
namespace Go.VM
open Go.RowKit

section
variable {P : Program} {nt : Nat} {keep : List Nat} {S : Nat → Prop} {base : Nat} {w0 : World} {env env' : Env} {a : Act} {w : World} {o : Orc}

theorem ofCell_kind {v : Value} {x : V} (h : ofCell v = some x) : x.isOwn = false ∧ x.smp = true ∧ frz x = x := by
  unfold ofCell at h
  split at h <;> first | (cases h; exact ⟨rfl, rfl, rfl⟩) | cases h
theorem ofConst_kind {v : Value} {x : V} (h : ofConst v = some x) : x.isOwn = false ∧ x.smp = true ∧ frz x = x := by
  unfold ofConst at h
  split at h
  · rename_i cs
    cases h1 : ofCells cs.toList with
    | none => rw [h1] at h; cases h
    | some xs => rw [h1] at h; cases h; exact ⟨rfl, rfl, rfl⟩
  · exact ofCell_kind h

/-- A constant is put into a slot. -/
theorem FI.put_const (hF : FI P nt keep S base w0 env a w) {d : Nat} (hk : d ∈ keep) (hd : d < nt) {ty : TypeId} {c : Value} {v : V} (hc : constT P ty c = some v) : FI P nt keep S base w0 (put' d v env) (a.put (some d) c) w := by
  unfold constT at hc
  split at hc
  · cases he : elemTy P ty with
    | none => rw [he] at hc; cases hc
    | some e =>
      rw [he] at hc
      cases hc
      refine hF.put_own hk hd (Below.refl _ _) rfl (fun g hg => by simp [blkOf] at hg) fun Im h1 h2 h3 => ⟨Im, fun _ h => h, fun b h => ⟨.inl h, (h2 b h).2⟩, ?_⟩
      exact ⟨⟨[], ⟨by simp, .inl ⟨rfl, rfl⟩⟩, by simp, by simp [flatc], Reps.nil⟩, fun g hg => by simp [blkOf] at hg⟩
  · obtain ⟨h1, h2, _⟩ := ofConst_kind hc
    exact hF.put_rep hk hd (Below.refl _ _) h2 h1 fun Im _ hI2 _ => ⟨Im, fun _ h => h, fun b h => ⟨.inl h, (hI2 b h).2⟩, ofConst_rep hc⟩

theorem eval_tmp {n : Nat} {u : Value} (h : tm a n = some u) : a.eval (.tmp n) = u := by
  have h' : a.tmps[n]? = some u := h
  simp [Act.eval, Array.getD_eq_getD_getElem?, h']

/-- What an operand reads as. -/
theorem src_val (hF : FI P nt keep S base w0 env a w) {x : Operand} {s : Src} (hs : src x = some s) {v : V} (hv : lookS env s = some v) : Rep (All w) w (a.eval x) v := by
  obtain ⟨Im, _, hI2, hE⟩ := hF.ents
  cases x with
  | tmp n =>
    simp only [src, Option.some.injEq] at hs
    subst hs
    obtain ⟨u, hu, hr⟩ := look_sound hE (fun b h => (hI2 b h).2) (show look env n = some v from hv)
    rw [eval_tmp hu]; exact hr
  | const c =>
    simp only [src] at hs
    cases hc : ofConst c with
    | none => rw [hc] at hs; cases hs
    | some c' =>
      rw [hc] at hs
      cases hs
      simp only [lookS, Option.some.injEq] at hv
      rw [(ofConst_kind hc).2.2] at hv
      subst hv
      exact ofConst_rep hc
  | func f =>
    simp only [src, Option.some.injEq] at hs
    subst hs
    simp only [lookS, Option.some.injEq] at hv
    subst hv
    exact .f _ #[] #[] [] [] rfl rfl (by simp) (by simp)
  | global g => simp [src] at hs
theorem src_loose {Im : Nat → Prop} (hE : Ents P Im w base env (tm a)) {x : Operand} {s : Src} (hs : src x = some s) (hl : Loose env s) {v : V} (hv : lookS env s = some v) : Rep Im w (a.eval x) v := by
  cases x with
  | tmp n =>
    simp only [src, Option.some.injEq] at hs
    subst hs
    obtain ⟨u, hu, hr⟩ := look_loose hE hl (show look env n = some v from hv)
    rw [eval_tmp hu]; exact hr
  | const c =>
    simp only [src] at hs
    cases hc : ofConst c with
    | none => rw [hc] at hs; cases hs
    | some c' =>
      rw [hc] at hs
      cases hs
      simp only [lookS, Option.some.injEq] at hv
      rw [(ofConst_kind hc).2.2] at hv
      subst hv
      exact ofConst_rep hc
  | func f =>
    simp only [src, Option.some.injEq] at hs
    subst hs
    simp only [lookS, Option.some.injEq] at hv
    subst hv
    exact .f _ #[] #[] [] [] rfl rfl (by simp) (by simp)
  | global g => simp [src] at hs
theorem srcs_val (hF : FI P nt keep S base w0 env a w) : ∀ {xs : List Operand} {ss : List Src} {vs : List V}, srcs xs = some ss → lookSs env ss = some vs → Reps (All w) w (xs.map a.eval) vs
  | [], ss, vs, hs, hv => by
    simp only [srcs, Option.some.injEq] at hs; subst hs
    simp only [lookSs, Option.some.injEq] at hv; subst hv
    exact Reps.nil
  | x :: xs, ss, vs, hs, hv => by
    simp only [srcs, Option.bind_eq_some_iff, Option.some.injEq] at hs
    obtain ⟨s, h1, ss', h2, rfl⟩ := hs
    simp only [lookSs, Option.bind_eq_some_iff, Option.some.injEq] at hv
    obtain ⟨v, h3, vs', h4, rfl⟩ := hv
    exact Reps.cons (src_val hF h1 h3) (srcs_val hF h2 h4)
theorem srcs_loose {Im : Nat → Prop} (hE : Ents P Im w base env (tm a)) : ∀ {xs : List Operand} {ss : List Src} {vs : List V}, srcs xs = some ss → (∀ s ∈ ss, Loose env s) → lookSs env ss = some vs → Reps Im w (xs.map a.eval) vs
  | [], ss, vs, hs, _, hv => by
    simp only [srcs, Option.some.injEq] at hs; subst hs
    simp only [lookSs, Option.some.injEq] at hv; subst hv
    exact Reps.nil
  | x :: xs, ss, vs, hs, hl, hv => by
    simp only [srcs, Option.bind_eq_some_iff, Option.some.injEq] at hs
    obtain ⟨s, h1, ss', h2, rfl⟩ := hs
    simp only [lookSs, Option.bind_eq_some_iff, Option.some.injEq] at hv
    obtain ⟨v, h3, vs', h4, rfl⟩ := hv
    exact Reps.cons (src_loose hE h1 (hl s (List.mem_cons_self ..)) h3) (srcs_loose hE h2 (fun s hs => hl s (List.mem_cons_of_mem _ hs)) h4)

/-- A slot is made to name another, or a part of what another holds. -/
theorem FI.put_names (hF : FI P nt keep S base w0 env a w) {d : Nat} (hk : d ∈ keep) (hd : d < nt) {x : V} {u : Value} {m : Nat} (hm : x.names = some m) (hmd : m ≠ d) {y : V} (hy : get m env = some y) (hyn : y.names = none)
    (hx : ∀ Im : Nat → Prop, Ents P Im w base env (tm a) → Ent P Im w base env (tm a) u x) : FI P nt keep S base w0 (put' d x env) (a.put (some d) u) w := by
  obtain ⟨Im, hI1, hI2, hE⟩ := hF.ents
  have hda : d < a.tmps.size := by rw [hF.size]; exact hd
  have hent := hx Im hE
  have hgm : get m (put' d x env) = some y := by
    rw [get_put' hF.srt, if_neg hmd]
    cases hq : get d env with
    | none => exact hy
    | some z => simp only [hy, Option.bind_some]; rw [if_neg (by rw [hyn]; simp)]
  have hTm : tm (a.put (some d) u) m = tm a m := (tm_put hda m).trans (if_neg hmd)
  have hno : ∀ c g, ¬ Owns (put' d x env) (tm (a.put (some d) u)) d c g := fun c g => not_owns hF.srt (by cases x <;> simp_all [V.names, V.isOwn]) (fun ys e => by subst e; simp [V.names] at hm) c g
  refine ⟨hF.srt.put' _ _, by simpa [Act.put] using hF.size, hF.defers, hF.below, hF.bsz, fun n z hz => ?_, Im, hI1, hI2, ?_⟩
  · by_cases hn : n = d
    · subst hn; exact ⟨hk, hd⟩
    · rw [get_put' hF.srt, if_neg hn] at hz
      cases hq : get d env with
      | none => rw [hq] at hz; exact hF.keys n z hz
      | some z' =>
        rw [hq] at hz
        simp only at hz
        cases hn' : get n env with
        | none => rw [hn'] at hz; cases hz
        | some y' => exact hF.keys n y' hn'
  · refine hE.put hF.srt d x u ((tm_put hda d).trans (if_pos rfl)) (fun k y hk _ => (tm_put hda k).trans (if_neg hk)) ?_ (fun k hk => ?_) (fun c g ho => absurd ho (hno c g)) (fun c c' g ho => absurd ho (hno c g))
    · cases x with
      | al k =>
        have : k = m := by simpa [V.names] using hm
        subst this
        exact hTm.trans hent
      | pe k i off sz =>
        have : k = m := by simpa [V.names] using hm
        subst this
        obtain ⟨ad, l, c, kk, h1, h2, h3⟩ := hent
        refine ⟨ad, l, c, kk, hTm.trans h1, h2, fun z es hz => ?_⟩
        rw [hgm] at hz; cases hz
        exact h3 y es hy
      | pb k off sz =>
        have : k = m := by simpa [V.names] using hm
        subst this
        obtain ⟨ad, h1, h2⟩ := hent
        exact ⟨ad, hTm.trans h1, h2⟩
      | _ => simp [V.names] at hm
    · rw [hm] at hk; cases hk
      exact ⟨hmd, y, hy, hyn⟩

/-- A copy into a slot. -/
theorem step_mv (hF : FI P nt keep S base w0 env a w) {d : Nat} (hk : d ∈ keep) (hd : d < nt) {ty : TypeId} {x : Operand} {s : Src} (hs : srcT P ty x = some s) (hnt : ∀ n ys, s = .t n → get n env ≠ some (.t ys)) (hst : stepS o env (.mv d s) = some env') : FI P nt keep S base w0 env' (a.put (some d) (a.eval x)) w := by
  cases x with
  | const c =>
    simp only [srcT] at hs
    cases hc : constT P ty c with
    | none => rw [hc] at hs; cases hs
    | some v =>
      rw [hc] at hs; cases hs
      simp only [stepS, Option.some.injEq] at hst
      subst hst
      exact hF.put_const hk hd hc
  | func f =>
    simp only [srcT, Option.some.injEq] at hs
    subst hs
    simp only [stepS, Option.some.injEq] at hst
    subst hst
    exact hF.put_rep hk hd (Below.refl _ _) rfl rfl fun Im _ hI2 _ => ⟨Im, fun _ h => h, fun b h => ⟨.inl h, (hI2 b h).2⟩, .f _ #[] #[] [] [] rfl rfl (by simp) (by simp)⟩
  | global g => simp [srcT] at hs
  | tmp n =>
    simp only [srcT, Option.some.injEq] at hs
    subst hs
    simp only [stepS] at hst
    cases hx : get n env with
    | none => rw [hx] at hst; cases hst
    | some y =>
      rw [hx] at hst
      simp only [Option.bind_some] at hst
      obtain ⟨Im0, _, _, hE0⟩ := hF.ents
      obtain ⟨u, hu, he0⟩ := hE0.ent n y hx
      have hev := eval_tmp hu
      rw [hev]
      have main : ∀ (hst : (if d = n ∨ y.names = some d then none else some (put' d (if y.isOwn then .al n else y) env)) = some env') (hy1 : ∀ ys, y ≠ .t ys) (hy2 : y ≠ .ud), FI P nt keep S base w0 env' (a.put (some d) u) w := by
        intro hst hy1 hy2
        split at hst
        · cases hst
        · rename_i hne
          cases hst
          by_cases hown : y.isOwn = true
          · rw [if_pos hown]
            exact hF.put_names hk hd (m := n) rfl (fun e => hne (.inl e.symm)) hx (by cases y <;> simp_all [V.isOwn, V.names]) fun Im hE => hu
          · rw [if_neg hown]
            by_cases hnm : y.names = none
            · have hsmp : y.smp = true := by cases y <;> simp_all [V.names, V.smp]
              refine hF.put_rep hk hd (Below.refl _ _) hsmp (by simpa using hown) fun Im _ hI2 hE => ⟨Im, fun _ h => h, fun b h => ⟨.inl h, (hI2 b h).2⟩, ?_⟩
              obtain ⟨u', hu', he⟩ := hE.ent n y hx
              have := hu.symm.trans hu'; cases this
              rw [Ent.res1 hsmp] at he
              cases y <;> first | exact he | (simp [V.isOwn] at hown; done) | (simp [V.smp] at hsmp; done)
            · obtain ⟨m, hm⟩ := Option.ne_none_iff_exists'.1 hnm
              obtain ⟨z, hz, hzn⟩ := hE0.closed n y m hx hm
              refine hF.put_names hk hd hm (fun e => hne (.inr (by rw [hm, e]))) hz hzn fun Im hE => ?_
              obtain ⟨u', hu', he⟩ := hE.ent n y hx
              have := hu.symm.trans hu'; cases this
              exact he
      cases y <;> first | exact absurd hx (hnt n _ rfl) | exact main hst (by simp) (by simp) | cases hst
end
end Go.VM
