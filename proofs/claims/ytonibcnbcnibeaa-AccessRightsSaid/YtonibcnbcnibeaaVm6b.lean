/-
  '==' of structs of plain cells. No program is named here.
-/
import Derived.Test.YtonibcnbcnibeaaVm6a
namespace Go.VM
open Go.RowKit

section
variable {P : Program} {S : Nat → Prop} {w : World}

theorem info_of_underlying {t : TypeId} {d : TypeDesc} (h : P.underlying t = some d) : ∃ i, P.info? t = some i := by
  unfold Program.underlying at h
  cases hi : P.info? t with
  | none => rw [hi] at h; cases h
  | some i => exact ⟨i, rfl⟩
theorem isAgg_run {t : TypeId} {d : TypeDesc} (h : P.underlying t = some d) (w' : World) : (isAgg t).run P w' = .ok (isAggB P t) w' := by
  unfold isAgg isAggB
  rw [Sem.run_bind, run_underlying h, Result.andThen_ok, h]
  cases d <;> rfl
theorem sizeOf_run {t : TypeId} {d : TypeDesc} (h : P.underlying t = some d) (w' : World) : (sizeOf t).run P w' = .ok (P.cellsOf t) w' := by
  obtain ⟨i, hi⟩ := info_of_underlying h
  exact run_sizeOf w' hi

/-- A value of a type out of its cells. -/
def valOf (P : Program) (t : TypeId) (us : List Value) : Value := if isAggB P t then .agg us.toArray else us.headD undef

theorem part_run {t : TypeId} {d : TypeDesc} (h : P.underlying t = some d) (us : List Value) (off : Nat) (hn : off + P.cellsOf t ≤ us.length) (h1 : isAggB P t = false → 1 ≤ P.cellsOf t) (w' : World) :
    (part t us.toArray off).run P w' = .ok (valOf P t ((us.drop off).take (P.cellsOf t))) w' := by
  unfold part valOf
  rw [Sem.run_bind, isAgg_run h, Result.andThen_ok]
  cases ha : isAggB P t with
  | true =>
    simp only [if_true, Sem.run_bind, sizeOf_run h, Result.andThen_ok, Sem.run_pure]
    congr 2
    simp [List.extract_eq_take_drop]
  | false =>
    have := h1 ha
    simp only [Bool.false_eq_true, if_false]
    have hlt : off < us.length := by omega
    have : us.toArray[off]? = some us[off] := by simp [hlt]
    simp only [this, Sem.run_pure]
    congr 2
    have h2 : (us.drop off).take (P.cellsOf t) = us[off] :: (us.drop (off + 1)).take (P.cellsOf t - 1) := by
      rw [List.drop_eq_getElem_cons hlt]
      obtain ⟨k, hk⟩ : ∃ k, P.cellsOf t = k + 1 := ⟨P.cellsOf t - 1, by omega⟩
      rw [hk, List.take_succ_cons, Nat.add_sub_cancel]
    rw [h2]; rfl

theorem eqCells_append {k1 k2 : List Nat} {xs1 ys1 xs2 ys2 : List V} (hx : xs1.length = k1.length) (hy : ys1.length = k1.length) :
    eqCells (k1 ++ k2) (xs1 ++ xs2) (ys1 ++ ys2) = (eqCells k1 xs1 ys1).bind fun a => (eqCells k2 xs2 ys2).map fun b => a && b := by
  induction k1 generalizing xs1 ys1 with
  | nil =>
    have e1 : xs1 = [] := List.eq_nil_of_length_eq_zero (by simpa using hx)
    have e2 : ys1 = [] := List.eq_nil_of_length_eq_zero (by simpa using hy)
    subst e1; subst e2; simp [eqCells]
  | cons k ks ih =>
    cases xs1 with
    | nil => simp at hx
    | cons x xs =>
      cases ys1 with
      | nil => simp at hy
      | cons y ys =>
        have e := ih (xs1 := xs) (ys1 := ys) (by simpa using hx) (by simpa using hy)
        simp only [List.cons_append]
        match k with
        | 0 => cases x <;> cases y <;> simp only [eqCells, Option.bind_none, e]; cases eqCells ks xs ys <;> simp; cases eqCells k2 xs2 ys2 <;> simp [Bool.and_assoc]
        | 1 => cases x <;> cases y <;> simp only [eqCells, Option.bind_none, e]; split <;> simp; cases eqCells ks xs ys <;> simp; cases eqCells k2 xs2 ys2 <;> simp [Bool.and_assoc]
        | 2 => cases x <;> cases y <;> simp only [eqCells, Option.bind_none, e]; cases eqCells ks xs ys <;> simp; cases eqCells k2 xs2 ys2 <;> simp [Bool.and_assoc]
        | k + 3 => simp [eqCells]

theorem scal_cells : ∀ (d : Nat) (t : TypeId) (ks : List Nat), scal P d t = some ks → (isAggB P t = false → ks.length = 1) ∧ ∃ td, P.underlying t = some td
  | 0, _, _, h => by simp [scal] at h
  | d + 1, t, n, h => by
    unfold scal at h
    unfold isAggB
    split at h
    all_goals (rename_i hu)
    · cases h; exact ⟨fun _ => rfl, _, hu⟩
    · cases h; exact ⟨fun _ => rfl, _, hu⟩
    · cases h; exact ⟨fun _ => rfl, _, hu⟩
    · refine ⟨fun hf => ?_, _, hu⟩
      rw [hu] at hf; cases hf
    · cases h

theorem eq_fields {d D : Nat} (hd : ∀ (t : TypeId) (ks : List Nat), scal P d t = some ks → ∀ (us vs : List Value) (xs ys : List V) (r : Bool), us.length = ks.length → vs.length = ks.length → Reps S w us xs → Reps S w vs ys → eqCells ks xs ys = some r →
    ∀ w' : World, (Op.equalIn D t (valOf P t us) (valOf P t vs)).run P w' = .ok r w') :
    ∀ (fs : List Field) (off : Nat) (ks : List Nat), scalFs P (scal P d) off fs = some ks → ∀ (us vs : List Value) (xs ys : List V) (r : Bool), us.length = off + ks.length → vs.length = off + ks.length → Reps S w us xs → Reps S w vs ys → eqCells ks (xs.drop off) (ys.drop off) = some r →
    ∀ w' : World, (Op.eqFields D us.toArray vs.toArray fs).run P w' = .ok r w'
  | [], off, ks, h, us, vs, xs, ys, r, hus, hvs, hux, hvy, hr, w' => by
    simp only [scalFs, Option.some.injEq] at h
    subst h
    have e1 : xs.drop off = [] := List.drop_eq_nil_of_le (by rw [← hux.1, hus]; simp)
    have e2 : ys.drop off = [] := List.drop_eq_nil_of_le (by rw [← hvy.1, hvs]; simp)
    rw [e1, e2] at hr
    simp only [eqCells, Option.some.injEq] at hr
    subst hr
    simp [Op.eqFields]
  | f :: fs, off, ks, h, us, vs, xs, ys, r, hus, hvs, hux, hvy, hr, w' => by
    simp only [scalFs] at h
    split at h
    case isFalse => cases h
    case isTrue hf =>
    obtain ⟨hname, hoff⟩ := hf
    cases hg : scal P d f.type with
    | none => rw [hg] at h; cases h
    | some k1 =>
      rw [hg] at h
      simp only [Option.bind_some] at h
      split at h
      case isFalse => cases h
      case isTrue hc =>
      cases hl : scalFs P (scal P d) (off + k1.length) fs with
      | none => rw [hl] at h; cases h
      | some l =>
        rw [hl] at h
        simp only [Option.map_some, Option.some.injEq] at h
        subst h
        simp only [List.length_append] at hus hvs
        obtain ⟨hone, td, htd⟩ := scal_cells _ _ _ hg
        have hx1 : (xs.drop off) = ((xs.drop off).take k1.length) ++ xs.drop (off + k1.length) := by rw [← List.drop_drop, List.take_append_drop]
        have hy1 : (ys.drop off) = ((ys.drop off).take k1.length) ++ ys.drop (off + k1.length) := by rw [← List.drop_drop, List.take_append_drop]
        have hxl : ((xs.drop off).take k1.length).length = k1.length := by rw [List.length_take, List.length_drop, ← hux.1, hus]; omega
        have hyl : ((ys.drop off).take k1.length).length = k1.length := by rw [List.length_take, List.length_drop, ← hvy.1, hvs]; omega
        rw [hx1, hy1, eqCells_append hxl hyl] at hr
        cases he : eqCells k1 ((xs.drop off).take k1.length) ((ys.drop off).take k1.length) with
        | none => rw [he] at hr; cases hr
        | some a =>
          rw [he] at hr
          simp only [Option.bind_some] at hr
          cases he2 : eqCells l (xs.drop (off + k1.length)) (ys.drop (off + k1.length)) with
          | none => rw [he2] at hr; cases hr
          | some b =>
            rw [he2] at hr
            simp only [Option.map_some, Option.some.injEq] at hr
            have p1 := part_run htd us f.offset (by rw [hoff, hc]; omega) (fun ha => by rw [hc, hone ha]; exact Nat.le_refl _) w'
            have p2 := part_run htd vs f.offset (by rw [hoff, hc]; omega) (fun ha => by rw [hc, hone ha]; exact Nat.le_refl _) w'
            rw [hoff, hc] at p1 p2
            have q := hd f.type k1 hg ((us.drop off).take k1.length) ((vs.drop off).take k1.length) _ _ a (by rw [List.length_take, List.length_drop, hus]; omega) (by rw [List.length_take, List.length_drop, hvs]; omega)
              ((hux.drop off).take _) ((hvy.drop off).take _) he w'
            have ih := eq_fields hd fs (off + k1.length) l hl us vs xs ys b (by omega) (by omega) hux hvy he2 w'
            simp only [Op.eqFields, hname, ne_eq, not_false_eq_true, if_true, Sem.run_bind, hoff, p1, p2, Result.andThen_ok, q]
            subst hr
            cases a
            · simp
            · simp [ih]

theorem eq_scal : ∀ (d : Nat) (t : TypeId) (ks : List Nat), scal P d t = some ks → ∀ (D : Nat), d ≤ D → ∀ (us vs : List Value) (xs ys : List V) (r : Bool), us.length = ks.length → vs.length = ks.length → Reps S w us xs → Reps S w vs ys → eqCells ks xs ys = some r →
    ∀ w' : World, (Op.equalIn D t (valOf P t us) (valOf P t vs)).run P w' = .ok r w'
  | 0, _, _, h, _, _, _, _, _, _, _, _, _, _, _, _ => by simp [scal] at h
  | d + 1, t, ks, h, D, hD, us, vs, xs, ys, r, hus, hvs, hux, hvy, hr => by
    intro w'
    obtain ⟨D, rfl⟩ : ∃ k, D = k + 1 := ⟨D - 1, by omega⟩
    have one : isAggB P t = false → ks.length = 1 → ∃ u v x y, us = [u] ∧ vs = [v] ∧ xs = [x] ∧ ys = [y] ∧ Rep S w u x ∧ Rep S w v y ∧ valOf P t us = u ∧ valOf P t vs = v := by
      intro ha hn
      rw [hn] at hus hvs
      match us, vs, xs, ys, hus, hvs, hux, hvy with
      | [u], [v], [x], [y], _, _, hux, hvy => exact ⟨u, v, x, y, rfl, rfl, rfl, rfl, hux.head, hvy.head, by simp [valOf, ha], by simp [valOf, ha]⟩
      | [u], [v], [], _, _, _, hux, _ => exact absurd hux.1 (by simp)
      | [u], [v], _ :: _ :: _, _, _, _, hux, _ => exact absurd hux.1 (by simp)
      | [u], [v], [x], [], _, _, _, hvy => exact absurd hvy.1 (by simp)
      | [u], [v], [x], _ :: _ :: _, _, _, _, hvy => exact absurd hvy.1 (by simp)
    have hsc := scal_cells _ _ _ h
    unfold scal at h
    split at h
    all_goals (rename_i hu)
    · have ha : isAggB P t = false := by simp [isAggB, hu]
      obtain ⟨u, v, x, y, rfl, rfl, rfl, rfl, h1, h2, e1, e2⟩ := one ha (hsc.1 ha)
      cases h
      rw [e1, e2]
      cases x <;> cases y <;> simp only [eqCells, reduceCtorEq, Option.map_some, Option.some.injEq] at hr
      cases h1; cases h2; rw [run_equalIn_bool _ _ _ _ _ hu]; subst hr; simp
    · have ha : isAggB P t = false := by simp [isAggB, hu]
      obtain ⟨u, v, x, y, rfl, rfl, rfl, rfl, h1, h2, e1, e2⟩ := one ha (hsc.1 ha)
      cases h
      rw [e1, e2]
      cases x <;> cases y <;> simp only [eqCells, reduceCtorEq, Option.map_some] at hr
      split at hr
      · rename_i hk; subst hk
        cases h1; cases h2
        cases hr
        rw [run_equalIn_int _ _ _ _ _ _ _ hu]; simp; rfl
      · cases hr
    · have ha : isAggB P t = false := by simp [isAggB, hu]
      obtain ⟨u, v, x, y, rfl, rfl, rfl, rfl, h1, h2, e1, e2⟩ := one ha (hsc.1 ha)
      cases h
      rw [e1, e2]
      cases x <;> cases y <;> simp only [eqCells, reduceCtorEq, Option.map_some, Option.some.injEq] at hr
      cases h1; cases h2
      rename_i p q
      have hd : (p.data == q.data) = decide (p.data = q.data) := Bool.eq_iff_iff.2 (by simp)
      rw [run_equalIn_string _ _ _ _ _ hu]; subst hr; simp [ByteArray.toList_eq, hd]
    · split at h
      · cases h
      · rename_i fs hst
        have ha : isAggB P t = true := by simp [isAggB, hu]
        have hf : P.fieldsOf t = fs := by simp [Program.fieldsOf, hu]
        simp only [valOf, ha, if_true]
        rw [run_equalIn_struct w' D t _ _ (by rw [hf]; exact hu) (by simpa using hst), hf]
        exact eq_fields (d := d) (D := D) (fun t ks hs us vs xs ys r h1 h2 h3 h4 h5 w' => eq_scal d t ks hs D (by omega) us vs xs ys r h1 h2 h3 h4 h5 w') fs.toList 0 ks h us vs xs ys r (by simpa using hus) (by simpa using hvs) hux hvy (by simpa using hr) w'
    · cases h

theorem scal_guard : ∀ (d : Nat) (t : TypeId) (ks : List Nat), scal P d t = some ks → ∀ D, d ≤ D → P.eqGuardType D t = false
  | 0, _, _, h, _, _ => by simp [scal] at h
  | d + 1, t, ks, h, D, hD => by
    obtain ⟨D, rfl⟩ : ∃ k, D = k + 1 := ⟨D - 1, by omega⟩
    unfold scal at h
    unfold Program.eqGuardType
    split at h
    all_goals (rename_i hu; try rw [hu])
    · split at h
      · cases h
      · rename_i fs _
        simp only [Array.any_eq_false']
        have key : ∀ (l : List Field) (off : Nat) (ks : List Nat), scalFs P (scal P d) off l = some ks → ∀ f ∈ l, P.eqGuardType D f.type = false := by
          intro l
          induction l with
          | nil => intro _ _ _ f hf; cases hf
          | cons g l ih =>
            intro off ks hs f hf
            simp only [scalFs] at hs
            split at hs
            · cases hg : scal P d g.type with
              | none => rw [hg] at hs; cases hs
              | some k1 =>
                rw [hg] at hs
                simp only [Option.bind_some] at hs
                split at hs
                · cases hl : scalFs P (scal P d) (off + k1.length) l with
                  | none => rw [hl] at hs; cases hs
                  | some l' =>
                    rcases List.mem_cons.1 hf with rfl | hf
                    · exact scal_guard d _ _ hg D (by omega)
                    · exact ih _ _ hl f hf
                · cases hs
            · cases hs
        intro f hf
        simp [key fs.toList 0 ks h f (by simpa using hf)]
    · cases h

/-- '==' and '!=' on structs of plain cells. -/
theorem eqa_run {t : TypeId} {ks : List Nat} (h : scal P 12 t = some ks) {fs : Array Field} (hu : P.underlying t = some (.struct fs)) (neg : Bool) (x y : Operand) (a b : Value) (xs ys : List V) (r : Bool)
    (h1 : Rep S w a (.a xs)) (h2 : Rep S w b (.a ys)) (hr : eqCells ks xs ys = some r) (hl : xs.length = ks.length ∧ ys.length = ks.length) :
    ∀ w' : World, (do eqGuard (if neg then .neq else .eql) t x y a b; binOp (if neg then .neq else .eql) t a b : Sem Value).run P w' = .ok (.bool (if neg then !r else r)) w' := by
  obtain ⟨us, rfl, _, hus⟩ := h1.agg
  obtain ⟨vs, rfl, _, hvs⟩ := h2.agg
  intro w'
  have ha : isAggB P t = true := by simp [isAggB, hu]
  have e := eq_scal 12 t ks h 10000 (by omega) us vs xs ys r (by rw [hus.1, hl.1]) (by rw [hvs.1, hl.2]) hus hvs hr w'
  simp only [valOf, ha, if_true] at e
  have hg : P.eqGuardType P.depth t = false := scal_guard 12 t ks h _ (by unfold Program.depth Made.depth; omega)
  cases neg
  · simp only [Bool.false_eq_true, if_false, Sem.run_bind, run_eqGuard_agg _ _ _ _ _ _ _ hg, Result.andThen_ok, run_eql_struct, e]
  · simp only [if_true, Sem.run_bind, run_eqGuard_agg _ _ _ _ _ _ _ hg, Result.andThen_ok, run_neq_struct, e]
theorem eqCells_length : ∀ {ks : List Nat} {xs ys : List V} {r : Bool}, eqCells ks xs ys = some r → xs.length = ks.length ∧ ys.length = ks.length
  | [], [], [], _, _ => ⟨rfl, rfl⟩
  | [], _ :: _, _, _, h => by simp [eqCells] at h
  | [], [], _ :: _, _, h => by simp [eqCells] at h
  | k :: ks, [], _, _, h => by simp [eqCells] at h
  | k :: ks, x :: xs, [], _, h => by cases x <;> simp [eqCells] at h
  | k :: ks, x :: xs, y :: ys, r, h => by
    have key : ∀ (o : Option Bool) (f : Bool → Bool), o.map f = some r → ∃ a, o = some a := fun o f h => by cases o with
      | none => cases h
      | some a => exact ⟨a, rfl⟩
    match k with
    | 0 => cases x <;> cases y <;> simp only [eqCells, reduceCtorEq] at h; obtain ⟨a, ha⟩ := key _ _ h; have := eqCells_length ha; simp [this.1, this.2]
    | 1 => cases x <;> cases y <;> simp only [eqCells, reduceCtorEq] at h; split at h <;> (try cases h); obtain ⟨a, ha⟩ := key _ _ h; have := eqCells_length ha; simp [this.1, this.2]
    | 2 => cases x <;> cases y <;> simp only [eqCells, reduceCtorEq] at h; obtain ⟨a, ha⟩ := key _ _ h; have := eqCells_length ha; simp [this.1, this.2]
    | k + 3 => simp [eqCells] at h
end
end Go.VM
