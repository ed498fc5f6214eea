/-
  Every quiet operation of the model that the compiler takes does what the evaluator says. No program is named here.
-/
import Derived.Test.YtonibcnbcnibeaaVm6i
namespace Go.VM
open Go.RowKit

/-- Quiet operations that call nothing and make nothing. -/
def XOp.plain : XOp → Bool
  | .call _ _ | .callv _ | .bsl _ => false
  | _ => true

section
variable {P : Program} {S : Nat → Prop} {w : World}

theorem reps1 {us : List Value} {x : V} (h : Reps S w us [x]) : ∃ u, us = [u] ∧ Rep S w u x := by
  match us, h with
  | [], h => exact absurd h.1 (by simp)
  | [u], h => exact ⟨u, rfl, h.head⟩
  | _ :: _ :: _, h => exact absurd h.1 (by simp)
theorem reps2 {us : List Value} {x y : V} (h : Reps S w us [x, y]) : ∃ u v, us = [u, v] ∧ Rep S w u x ∧ Rep S w v y := by
  match us, h with
  | [], h => exact absurd h.1 (by simp)
  | [_], h => exact absurd h.1 (by simp)
  | [u, v], h => exact ⟨u, v, rfl, h.head, h.tail.head⟩
  | _ :: _ :: _ :: _, h => exact absurd h.1 (by simp)

/-- An operation yields one value, whatever has been made besides. -/
def Yields1 (P : Program) (S : Nat → Prop) (w : World) (s : Sem Next) (v : V) : Prop :=
  ∃ u, Rep S w u v ∧ ∀ w' : World, (∀ p : Addr, S p.block → w'.cell? p = w.cell? p) → s.run P w' = .ok (.value u) w'

theorem len_eq {tys : Array TypeId} {us : Array Value} {t ty : TypeId} {a : Value} (ht : tys[0]? = some t) (ha : us[0]? = some a) : Builtin.len_ tys ty us = Builtin.len_ #[t] ty #[a] := by
  unfold Builtin.len_
  simp only [ht, ha]
  rfl
theorem Yields1.of {s : Sem Value} {v : V} (h : ∃ u, Rep S w u v ∧ ∀ w' : World, s.run P w' = .ok u w') : Yields1 P S w (do pure (.value (← s)) : Sem Next) v := by
  obtain ⟨u, hu, hr⟩ := h
  exact ⟨u, hu, fun w' _ => by simp [hr w']⟩
theorem Yields1.of' {s : Sem Value} {v : V} (h : ∃ u, Rep S w u v ∧ ∀ w' : World, (∀ p : Addr, S p.block → w'.cell? p = w.cell? p) → s.run P w' = .ok u w') : Yields1 P S w (do pure (.value (← s)) : Sem Next) v := by
  obtain ⟨u, hu, hr⟩ := h
  exact ⟨u, hu, fun w' hw => by simp [hr w' hw]⟩

theorem qop_plain {o : Orc} {op : Op} {p : XOp} {xs : List Operand} (h : qop P op = some (p, xs)) (hp : p.plain = true) (ρ : Operand → Value) (oper : Oper) (hop : oper.op = op) (vs : List V) (v : V)
    (hr : Reps S w (xs.map ρ) vs) (hv : opQ o p vs = some v) : Yields1 P S w (execOp ρ oper) v := by
  unfold qop at h
  split at h
  · simp only [Option.some.injEq, Prod.mk.injEq] at h
    obtain ⟨rfl, rfl⟩ := h
    obtain ⟨x, rfl, rfl⟩ := inv_mv hv
    obtain ⟨u, hu, hru⟩ := reps1 hr
    simp only [List.map_cons, List.map_nil, List.cons.injEq, and_true] at hu
    subst hu
    exact ⟨_, hru, fun w' _ => by simp [execOp, hop]⟩
  · simp only [Option.some.injEq, Prod.mk.injEq] at h
    obtain ⟨rfl, rfl⟩ := h
    obtain ⟨x, rfl, rfl⟩ := inv_mv hv
    obtain ⟨u, hu, hru⟩ := reps1 hr
    simp only [List.map_cons, List.map_nil, List.cons.injEq, and_true] at hu
    subst hu
    exact ⟨_, hru, fun w' _ => by simp [execOp, hop]⟩
  · -- binOp
    rename_i op t x y yt
    have hx : execOp ρ oper = (do pure (.value (← (do eqGuard op t x y (ρ x) (ρ y); binOp op t (ρ x) (ρ y) : Sem Value))) : Sem Next) := by simp only [execOp, hop]
    rw [hx]
    split at h
    · rename_i fs hu
      cases hs : scal P 12 t with
      | none => rw [hs] at h; cases h
      | some ks =>
        rw [hs] at h
        simp only [Option.map_some, Option.some.injEq, Prod.mk.injEq] at h
        obtain ⟨rfl, rfl⟩ := h
        obtain ⟨as, bs, r, rfl, he, rfl⟩ := inv_eqa hv
        obtain ⟨a, b, hab, h1, h2⟩ := reps2 hr
        simp only [List.map_cons, List.map_nil, List.cons.injEq, and_true] at hab
        obtain ⟨rfl, rfl⟩ := hab
        exact .of ⟨_, .b _, eqa_run hs hu false x y _ _ as bs r h1 h2 he (eqCells_length he)⟩
    · rename_i fs hu
      cases hs : scal P 12 t with
      | none => rw [hs] at h; cases h
      | some ks =>
        rw [hs] at h
        simp only [Option.map_some, Option.some.injEq, Prod.mk.injEq] at h
        obtain ⟨rfl, rfl⟩ := h
        obtain ⟨as, bs, r, rfl, he, rfl⟩ := inv_eqa hv
        obtain ⟨a, b, hab, h1, h2⟩ := reps2 hr
        simp only [List.map_cons, List.map_nil, List.cons.injEq, and_true] at hab
        obtain ⟨rfl, rfl⟩ := hab
        exact .of ⟨_, .b _, eqa_run hs hu true x y _ _ as bs r h1 h2 he (eqCells_length he)⟩
    · rename_i hu
      simp only [Option.some.injEq, Prod.mk.injEq] at h
      obtain ⟨rfl, rfl⟩ := h
      obtain ⟨p, q, rfl, he⟩ := inv_binb hv
      obtain ⟨a, b, hab, h1, h2⟩ := reps2 hr
      simp only [List.map_cons, List.map_nil, List.cons.injEq, and_true] at hab
      obtain ⟨rfl, rfl⟩ := hab
      exact .of (binb_run _ t hu x y _ _ p q v h1 h2 he)
    · simp only [Option.some.injEq, Prod.mk.injEq] at h
      obtain ⟨rfl, rfl⟩ := h
      obtain ⟨p, q, rfl, he⟩ := inv_bin hv
      obtain ⟨a, b, hab, h1, h2⟩ := reps2 hr
      simp only [List.map_cons, List.map_nil, List.cons.injEq, and_true] at hab
      obtain ⟨rfl, rfl⟩ := hab
      exact .of (bin_run _ t x y _ _ p q v h1 h2 he)
    · simp only [Option.some.injEq, Prod.mk.injEq] at h
      obtain ⟨rfl, rfl⟩ := h
      obtain ⟨p, q, rfl, he⟩ := inv_bin hv
      obtain ⟨a, b, hab, h1, h2⟩ := reps2 hr
      simp only [List.map_cons, List.map_nil, List.cons.injEq, and_true] at hab
      obtain ⟨rfl, rfl⟩ := hab
      exact .of (bin_run _ t x y _ _ p q v h1 h2 he)
    · cases h
  · -- unOp
    simp only [Option.some.injEq, Prod.mk.injEq] at h
    obtain ⟨rfl, rfl⟩ := h
    rename_i op t x
    obtain ⟨p, rfl, he⟩ := inv_un hv
    obtain ⟨a, ha, h1⟩ := reps1 hr
    simp only [List.map_cons, List.map_nil, List.cons.injEq, and_true] at ha
    subst ha
    have hx : execOp ρ oper = (do pure (.value (← Op.unary op (ρ x))) : Sem Next) := by simp only [execOp, hop]
    rw [hx]
    exact .of (un_run op _ p v h1 he)
  · -- convert
    rename_i s d x
    split at h
    · rename_i k0 k hs hd
      simp only [Option.some.injEq, Prod.mk.injEq] at h
      obtain ⟨rfl, rfl⟩ := h
      obtain ⟨k1, m, rfl, rfl⟩ := inv_cnv hv
      obtain ⟨a, ha, h1⟩ := reps1 hr
      simp only [List.map_cons, List.map_nil, List.cons.injEq, and_true] at ha
      subst ha
      have hx : execOp ρ oper = (do pure (.value (← convert s d (ρ x))) : Sem Next) := by simp only [execOp, hop]
      rw [hx]
      refine .of ⟨_, .i _ _, fun w' => ?_⟩
      generalize ρ x = xv at h1
      cases h1
      simp [convert, run_underlying hs, run_underlying hd, Conv.intToInt]
    · cases h
  · -- fieldAddr
    rename_i t x i
    split at h
    · rename_i fs hu
      cases hf : fs[i]? with
      | none => rw [hf] at h; cases h
      | some f =>
        rw [hf] at h
        simp only [Option.bind_some] at h
        split at h
        · simp only [Option.some.injEq, Prod.mk.injEq] at h
          obtain ⟨rfl, rfl⟩ := h
          obtain ⟨cs, r, rfl, hs, rfl⟩ := inv_fa hv
          obtain ⟨a, ha, h1⟩ := reps1 hr
          simp only [List.map_cons, List.map_nil, List.cons.injEq, and_true] at ha
          subst ha
          have hx : execOp ρ oper = (do pure (.value (← Instr.fieldAt t (ρ x) i)) : Sem Next) := by simp only [execOp, hop]
          rw [hx]
          exact .of (fa_run hu hf ‹_› _ cs r h1 hs)
        · cases h
    · cases h
  · -- field
    rename_i t x i
    split at h
    · rename_i fs hu
      cases hf : fs[i]? with
      | none => rw [hf] at h; cases h
      | some f =>
        rw [hf] at h
        simp only [Option.bind_some] at h
        split at h
        · simp only [Option.some.injEq, Prod.mk.injEq] at h
          obtain ⟨rfl, rfl⟩ := h
          obtain ⟨cs, r, rfl, hs, he⟩ := inv_fld hv
          obtain ⟨a, ha, h1⟩ := reps1 hr
          simp only [List.map_cons, List.map_nil, List.cons.injEq, and_true] at ha
          subst ha
          have hx : execOp ρ oper = (do pure (.value (← Instr.field t (ρ x) i)) : Sem Next) := by simp only [execOp, hop]
          rw [hx]
          exact .of (fld_run hu hf ‹_› _ cs r v h1 hs he)
        · cases h
    · cases h
  · -- indexAddr
    rename_i t x i
    split at h
    · rename_i e hu
      split at h
      · simp only [Option.some.injEq, Prod.mk.injEq] at h
        obtain ⟨rfl, rfl⟩ := h
        obtain ⟨es, k, n, y, rfl, h0, hy, hl, rfl⟩ := inv_ix hv
        obtain ⟨a, b, hab, h1, h2⟩ := reps2 hr
        simp only [List.map_cons, List.map_nil, List.cons.injEq, and_true] at hab
        obtain ⟨rfl, rfl⟩ := hab
        have hx : execOp ρ oper = (do pure (.value (← Instr.indexAt t (ρ x) (ρ i))) : Sem Next) := by simp only [execOp, hop]
        rw [hx]
        exact .of (ix_run hu ‹_› _ _ es k n y h1 h2 h0 hy hl)
      · cases h
    · cases h
  · -- index
    rename_i t x i
    split at h
    · rename_i hu
      simp only [Option.some.injEq, Prod.mk.injEq] at h
      obtain ⟨rfl, rfl⟩ := h
      obtain ⟨s, k, n, c, rfl, h0, hc, rfl⟩ := inv_idx hv
      obtain ⟨a, b, hab, h1, h2⟩ := reps2 hr
      simp only [List.map_cons, List.map_nil, List.cons.injEq, and_true] at hab
      obtain ⟨rfl, rfl⟩ := hab
      have hx : execOp ρ oper = (do pure (.value (← Instr.index t (ρ x) (ρ i))) : Sem Next) := by simp only [execOp, hop]
      rw [hx]
      exact .of (idx_run hu _ _ s k n c h1 h2 h0 hc)
    · cases h
  · -- load
    rename_i t a
    split at h
    · simp only [Option.some.injEq, Prod.mk.injEq] at h
      obtain ⟨rfl, rfl⟩ := h
      obtain ⟨cs, rfl, hl, he⟩ := inv_ld hv
      obtain ⟨a', ha, h1⟩ := reps1 hr
      simp only [List.map_cons, List.map_nil, List.cons.injEq, and_true] at ha
      subst ha
      have hx : execOp ρ oper = (do pure (.value (← Instr.loadAt t (ρ a))) : Sem Next) := by simp only [execOp, hop]
      rw [hx]
      exact .of' (load_run ‹_› _ cs v h1 hl he)
    · cases h
  · -- slice
    rename_i t x lo hi
    have hx : execOp ρ oper = (do pure (.value (← Instr.sliceAt t (ρ x) (lo.map ρ) (hi.map ρ) none)) : Sem Next) := by simp only [execOp, hop, Option.map_none]
    rw [hx]
    have hlo : (lo.map ρ).isSome = lo.isSome := by cases lo <;> rfl
    have hhi : (hi.map ρ).isSome = hi.isSome := by cases hi <;> rfl
    have hl : (lo.toList ++ hi.toList).map ρ = (lo.map ρ).toList ++ (hi.map ρ).toList := by cases lo <;> cases hi <;> rfl
    split at h
    · rename_i hu
      simp only [Option.some.injEq, Prod.mk.injEq] at h
      obtain ⟨rfl, rfl⟩ := h
      obtain ⟨s, bs, p, rfl, hb, rfl⟩ := inv_slcs hv
      rw [List.map_cons, hl] at hr
      exact .of (slcs_run hu (lo.map ρ) (hi.map ρ) _ s bs p hr.head hr.tail (by rw [hlo, hhi]; exact hb))
    · rename_i e hu
      split at h
      · cases h
      · rename_i he
        simp only [Option.some.injEq, Prod.mk.injEq] at h
        obtain ⟨rfl, rfl⟩ := h
        obtain ⟨es, bs, p, rfl, hk, hb, rfl⟩ := inv_slc hv
        have hel : P.elem t = e := by simp [Program.elem, hu]
        rw [hel] at hk
        rw [List.map_cons, hl] at hr
        exact .of (slc_run hu (by cases hq : P.underlying e <;> simp_all) (lo.map ρ) (hi.map ρ) _ es bs p hr.head hk hr.tail (by rw [hlo, hhi]; exact hb))
    · cases h
  · -- extract
    rename_i t i
    simp only [Option.some.injEq, Prod.mk.injEq] at h
    obtain ⟨rfl, rfl⟩ := h
    obtain ⟨ys, rfl, hy⟩ := inv_ext hv
    obtain ⟨a, ha, h1⟩ := reps1 hr
    simp only [List.map_cons, List.map_nil, List.cons.injEq, and_true] at ha
    subst ha
    have hx : execOp ρ oper = (do pure (.value (← Instr.extract (ρ t) i)) : Sem Next) := by simp only [execOp, hop]
    rw [hx]
    generalize ρ t = tv at h1
    cases h1 with
    | t us _ hl hh =>
      have hi : i < us.size := by rw [hl]; exact (List.getElem?_eq_some_iff.1 hy).1
      exact .of ⟨us[i], hh i _ v (Array.getElem?_eq_getElem hi) hy, fun w' => by simp [Instr.extract, Array.getElem?_eq_getElem hi]⟩
  · -- build
    rename_i t ps
    split at h
    · rename_i fs hu
      cases hz : zeroCells P t with
      | none => rw [hz] at h; cases h
      | some z =>
        rw [hz] at h
        simp only [Option.bind_some] at h
        cases hq : places P fs with
        | none => rw [hq] at h; cases h
        | some qs =>
          rw [hq] at h
          simp only [Option.bind_some] at h
          cases hpl : placed qs ps.toList with
          | none => rw [hpl] at h; cases h
          | some pl =>
            rw [hpl] at h
            simp only [Option.bind_some, Option.some.injEq, Prod.mk.injEq] at h
            obtain ⟨rfl, rfl⟩ := h
            obtain ⟨r, hb, rfl⟩ := inv_bld hv
            have hx : execOp ρ oper = (do pure (.value (← Instr.build t (ps.map fun (i, x) => (i, ρ x)))) : Sem Next) := by simp only [execOp, hop]
            rw [hx]
            exact .of (bld_run hu hz hq ρ ps hpl vs r (by simpa [List.map_map, Function.comp_def] using hr) hb)
    · cases h
  · -- buildSlice
    split at h
    · split at h
      · simp only [Option.some.injEq, Prod.mk.injEq] at h
        obtain ⟨rfl, rfl⟩ := h
        simp [XOp.plain] at hp
      · cases h
    · cases h
  · simp only [Option.some.injEq, Prod.mk.injEq] at h
    obtain ⟨rfl, rfl⟩ := h
    simp [XOp.plain] at hp
  · simp only [Option.some.injEq, Prod.mk.injEq] at h
    obtain ⟨rfl, rfl⟩ := h
    simp [XOp.plain] at hp
  · -- len
    rename_i args tys
    have hx : ∀ w', (execOp ρ oper).run P w' = (do pure (.value (← Builtin.len_ tys oper.type (args.map ρ))) : Sem Next).run P w' := fun w' => by simp [execOp, hop, resolve, invoke, builtin]
    have hty : ∀ {q : TypeDesc}, (tys[0]?).bind P.underlying = some q → ∃ t, tys[0]? = some t ∧ P.underlying t = some q := fun {q} hq => by
      cases h0 : tys[0]? with
      | none => rw [h0] at hq; cases hq
      | some t => rw [h0] at hq; exact ⟨t, rfl, hq⟩
    split at h
    · rename_i x hargs hu
      simp only [Option.some.injEq, Prod.mk.injEq] at h
      obtain ⟨rfl, rfl⟩ := h
      obtain ⟨t, ht, hu⟩ := hty hu
      obtain ⟨s, rfl, rfl⟩ := inv_slen hv
      obtain ⟨a, ha, h1⟩ := reps1 hr
      simp only [List.map_cons, List.map_nil, List.cons.injEq, and_true] at ha
      subst ha
      obtain ⟨u, hu', hrun⟩ := slen_run (w := w) hu _ s h1 oper.type
      have hav : (args.map ρ)[0]? = some (ρ x) := by
        have : args = #[x] := Array.toList_inj.1 (by simpa using hargs)
        subst this; simp
      refine ⟨u, hu', fun w' _ => ?_⟩
      rw [hx, len_eq ht hav]
      simp only [Sem.run_bind, hrun w', Result.andThen_ok, Sem.run_pure]
    · rename_i x e hargs hu
      simp only [Option.some.injEq, Prod.mk.injEq] at h
      obtain ⟨rfl, rfl⟩ := h
      obtain ⟨t, ht, hu⟩ := hty hu
      obtain ⟨es, rfl, rfl⟩ := inv_len hv
      obtain ⟨a, ha, h1⟩ := reps1 hr
      simp only [List.map_cons, List.map_nil, List.cons.injEq, and_true] at ha
      subst ha
      obtain ⟨u, hu', hrun⟩ := len_run (w := w) hu _ es h1 oper.type
      have hav : (args.map ρ)[0]? = some (ρ x) := by
        have : args = #[x] := Array.toList_inj.1 (by simpa using hargs)
        subst this; simp
      refine ⟨u, hu', fun w' _ => ?_⟩
      rw [hx, len_eq ht hav]
      simp only [Sem.run_bind, hrun w', Result.andThen_ok, Sem.run_pure]
    · cases h
  · -- max
    rename_i args tys
    simp only [Option.some.injEq, Prod.mk.injEq] at h
    obtain ⟨rfl, rfl⟩ := h
    have hm := inv_mx hv
    have hx : ∀ w', (execOp ρ oper).run P w' = (do pure (.value (← Builtin.max_ tys oper.type (args.map ρ))) : Sem Next).run P w' := fun w' => by simp [execOp, hop, resolve, invoke, builtin]
    cases hl : args.toList.map ρ with
    | nil =>
      rw [hl] at hr
      have : vs = [] := List.eq_nil_of_length_eq_zero (by simpa using hr.1.symm)
      subst this; simp [maxV] at hm
    | cons a r =>
      rw [hl] at hr
      obtain ⟨u, hu, hrun⟩ := max_run (P := P) r a vs v hr hm
      refine ⟨u, hu, fun w' _ => ?_⟩
      rw [hx]
      simp [Builtin.max_, hl, hrun w']
  · -- min
    rename_i args tys
    simp only [Option.some.injEq, Prod.mk.injEq] at h
    obtain ⟨rfl, rfl⟩ := h
    have hm := inv_mn hv
    have hx : ∀ w', (execOp ρ oper).run P w' = (do pure (.value (← Builtin.min_ tys oper.type (args.map ρ))) : Sem Next).run P w' := fun w' => by simp [execOp, hop, resolve, invoke, builtin]
    cases hl : args.toList.map ρ with
    | nil =>
      rw [hl] at hr
      have : vs = [] := List.eq_nil_of_length_eq_zero (by simpa using hr.1.symm)
      subst this; simp [minV] at hm
    | cons a r =>
      rw [hl] at hr
      obtain ⟨u, hu, hrun⟩ := min_run (P := P) r a vs v hr hm
      refine ⟨u, hu, fun w' _ => ?_⟩
      rw [hx]
      simp [Builtin.min_, hl, hrun w']
  · cases h
end
end Go.VM
