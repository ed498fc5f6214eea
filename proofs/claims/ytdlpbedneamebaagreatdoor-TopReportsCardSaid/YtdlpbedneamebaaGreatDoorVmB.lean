/-
  The quiet operations of the model do what the evaluator says: numbers, strings, structs, addresses. No program is named here.
-/
import Derived.Test.YtdlpbedneamebaaGreatDoorVmA
import Derived.Laws.StructEq
import Derived.WalkSpells
set_option linter.unusedSectionVars false
namespace Go.VM
open Go.RowKit

section
variable {P : Program} {S : Nat → Prop} {w : World}

theorem bin_run (op : BinOp) (t : TypeId) (x y : Operand) (a b : Value) (v1 v2 v : V) (h1 : Rep S w a v1) (h2 : Rep S w b v2) (hv : binV op v1 v2 = some v) :
    ∃ u, Rep S w u v ∧ ∀ w' : World, (do eqGuard op t x y a b; binOp op t a b : Sem Value).run P w' = .ok u w' := by
  cases v1 with
  | i k m =>
    cases v2 with
    | i k' m' =>
      cases h1; cases h2
      by_cases hk : k = k'
      · subst hk
        cases op <;> simp only [binV, intV, if_true] at hv
        case add => cases hv; exact ⟨_, .i _ _, fun w' => by simp [eqGuard, binOp, Op.intArith]⟩
        case sub => cases hv; exact ⟨_, .i _ _, fun w' => by simp [eqGuard, binOp, Op.intArith]⟩
        case mul => cases hv; exact ⟨_, .i _ _, fun w' => by simp [eqGuard, binOp, Op.intArith]⟩
        case quo => split at hv <;> cases hv; rename_i h0; exact ⟨_, .i _ _, fun w' => by simp [eqGuard, binOp, Op.intDiv, h0]⟩
        case rem => split at hv <;> cases hv; rename_i h0; exact ⟨_, .i _ _, fun w' => by simp [eqGuard, binOp, Op.intDiv, h0]⟩
        case and => cases hv; exact ⟨_, .i _ _, fun w' => by simp [eqGuard, binOp, Op.intBits, bitsV]⟩
        case or => cases hv; exact ⟨_, .i _ _, fun w' => by simp [eqGuard, binOp, Op.intBits, bitsV]⟩
        case xor => cases hv; exact ⟨_, .i _ _, fun w' => by simp [eqGuard, binOp, Op.intBits, bitsV]⟩
        case andNot => cases hv; exact ⟨_, .i _ _, fun w' => by simp [eqGuard, binOp, Op.intBits, bitsV]⟩
        case shl => split at hv <;> cases hv; rename_i h0; exact ⟨_, .i _ _, fun w' => by simp [eqGuard, binOp, Op.shift, h0]⟩
        case shr => split at hv <;> cases hv; rename_i h0; exact ⟨_, .i _ _, fun w' => by simp [eqGuard, binOp, Op.shift, h0]⟩
        case eql => cases hv; exact ⟨_, .b _, fun w' => by simp [eqGuard, binOp, Op.intCmp]; rfl⟩
        case neq => cases hv; exact ⟨_, .b _, fun w' => by simp [eqGuard, binOp, Op.intCmp, bne]; rfl⟩
        case lss => cases hv; exact ⟨_, .b _, fun w' => by simp [eqGuard, binOp, Op.intCmp]⟩
        case leq => cases hv; exact ⟨_, .b _, fun w' => by simp [eqGuard, binOp, Op.intCmp]⟩
        case gtr => cases hv; exact ⟨_, .b _, fun w' => by simp [eqGuard, binOp, Op.intCmp]⟩
        case geq => cases hv; exact ⟨_, .b _, fun w' => by simp [eqGuard, binOp, Op.intCmp]⟩
      · cases op <;> simp only [binV, hk, if_false] at hv <;> try cases hv
        case shl => split at hv <;> cases hv; rename_i h0; exact ⟨_, .i _ _, fun w' => by simp [eqGuard, binOp, Op.shift, h0]⟩
        case shr => split at hv <;> cases hv; rename_i h0; exact ⟨_, .i _ _, fun w' => by simp [eqGuard, binOp, Op.shift, h0]⟩
    | _ => simp [binV] at hv
  | s m =>
    cases v2 with
    | s m' =>
      cases h1; cases h2
      rename_i p q
      have ep : p.toList = p.data.toList := ByteArray.toList_eq p
      have eq : q.toList = q.data.toList := ByteArray.toList_eq q
      have hd : (p.data == q.data) = decide (p.data = q.data) := Bool.eq_iff_iff.2 (by simp)
      cases op <;> simp only [binV, strV] at hv <;> try cases hv
      case add =>
        split at hv <;> cases hv; rename_i h0
        refine ⟨.string (p ++ q), by simpa using Rep.s (S := S) (w := w) (p ++ q), fun w' => ?_⟩
        have : ¬ (9223372036854775807 < ((p.size + q.size : Nat) : Int)) := by
          have : p.size + q.size ≤ 9223372036854775807 := by simpa using h0
          omega
        simp [eqGuard, binOp, Op.stringOp, IntKind.max, IntKind.signed, IntKind.bits]
        omega
      all_goals exact ⟨_, .b _, fun w' => by simp [eqGuard, binOp, Op.stringOp, ep, eq, hd]⟩
    | _ => simp [binV] at hv
  | _ => simp [binV] at hv

theorem binb_run (op : BinOp) (t : TypeId) (hu : P.underlying t = some .bool) (x y : Operand) (a b : Value) (v1 v2 v : V) (h1 : Rep S w a v1) (h2 : Rep S w b v2) (hv : binbV op v1 v2 = some v) :
    ∃ u, Rep S w u v ∧ ∀ w' : World, (do eqGuard op t x y a b; binOp op t a b : Sem Value).run P w' = .ok u w' := by
  cases v1 with
  | b m =>
    cases v2 with
    | b m' =>
      have hb : ∀ (d : Nat) (w' : World), (Op.equalIn (d + 1) t (.bool m) (.bool m')).run P w' = .ok (m == m') w' := fun d w' => run_equalIn_bool w' d t m m' hu
      cases h1; cases h2
      cases op <;> simp only [binbV] at hv <;> try cases hv
      all_goals exact ⟨_, .b _, fun w' => by simp [eqGuard, binOp, Op.equal, Op.maxDepth, hb]⟩
    | _ => simp [binbV] at hv
  | _ => simp [binbV] at hv
end
end Go.VM
/-
  '==' of structs of plain cells. No program is named here.
-/
namespace Go.VM
open Go.RowKit

section
variable {P : Program} {S : Nat → Prop} {w : World}

theorem info_of_underlying {t : TypeId} {d : TypeDesc} (h : P.underlying t = some d) : ∃ i, P.info? t = some i := by
  unfold Program.underlying at h
  cases hi : P.info? t with
  | none => rw [hi] at h; cases h
  | some i => exact ⟨i, rfl⟩
theorem isAgg_run {t : TypeId} {d : TypeDesc} (h : P.underlying t = some d) (w' : World) : (isAgg t).run P w' = .ok (isAggB P t) w' := by
  unfold isAgg isAggB
  rw [Sem.run_bind, run_underlying h, Result.andThen_ok, h]
  cases d <;> rfl
theorem sizeOf_run {t : TypeId} {d : TypeDesc} (h : P.underlying t = some d) (w' : World) : (sizeOf t).run P w' = .ok (P.cellsOf t) w' := by
  obtain ⟨i, hi⟩ := info_of_underlying h
  exact run_sizeOf w' hi

def valOf (P : Program) (t : TypeId) (us : List Value) : Value := if isAggB P t then .agg us.toArray else us.headD undef

theorem part_run {t : TypeId} {d : TypeDesc} (h : P.underlying t = some d) (us : List Value) (off : Nat) (hn : off + P.cellsOf t ≤ us.length) (h1 : isAggB P t = false → 1 ≤ P.cellsOf t) (w' : World) :
    (part t us.toArray off).run P w' = .ok (valOf P t ((us.drop off).take (P.cellsOf t))) w' := by
  unfold part valOf
  rw [Sem.run_bind, isAgg_run h, Result.andThen_ok]
  cases ha : isAggB P t with
  | true =>
    simp only [if_true, Sem.run_bind, sizeOf_run h, Result.andThen_ok, Sem.run_pure]
    congr 2
    simp [List.extract_eq_take_drop]
  | false =>
    have := h1 ha
    simp only [Bool.false_eq_true, if_false]
    have hlt : off < us.length := by omega
    have : us.toArray[off]? = some us[off] := by simp [hlt]
    simp only [this, Sem.run_pure]
    congr 2
    have h2 : (us.drop off).take (P.cellsOf t) = us[off] :: (us.drop (off + 1)).take (P.cellsOf t - 1) := by
      rw [List.drop_eq_getElem_cons hlt]
      obtain ⟨k, hk⟩ : ∃ k, P.cellsOf t = k + 1 := ⟨P.cellsOf t - 1, by omega⟩
      rw [hk, List.take_succ_cons, Nat.add_sub_cancel]
    rw [h2]; rfl

theorem eqCells_append {k1 k2 : List Nat} {xs1 ys1 xs2 ys2 : List V} (hx : xs1.length = k1.length) (hy : ys1.length = k1.length) :
    eqCells (k1 ++ k2) (xs1 ++ xs2) (ys1 ++ ys2) = (eqCells k1 xs1 ys1).bind fun a => (eqCells k2 xs2 ys2).map fun b => a && b := by
  induction k1 generalizing xs1 ys1 with
  | nil =>
    have e1 : xs1 = [] := List.eq_nil_of_length_eq_zero (by simpa using hx)
    have e2 : ys1 = [] := List.eq_nil_of_length_eq_zero (by simpa using hy)
    subst e1; subst e2; simp [eqCells]
  | cons k ks ih =>
    cases xs1 with
    | nil => simp at hx
    | cons x xs =>
      cases ys1 with
      | nil => simp at hy
      | cons y ys =>
        have e := ih (xs1 := xs) (ys1 := ys) (by simpa using hx) (by simpa using hy)
        simp only [List.cons_append]
        match k with
        | 0 => cases x <;> cases y <;> simp only [eqCells, Option.bind_none, e]; cases eqCells ks xs ys <;> simp; cases eqCells k2 xs2 ys2 <;> simp [Bool.and_assoc]
        | 1 => cases x <;> cases y <;> simp only [eqCells, Option.bind_none, e]; split <;> simp; cases eqCells ks xs ys <;> simp; cases eqCells k2 xs2 ys2 <;> simp [Bool.and_assoc]
        | 2 => cases x <;> cases y <;> simp only [eqCells, Option.bind_none, e]; cases eqCells ks xs ys <;> simp; cases eqCells k2 xs2 ys2 <;> simp [Bool.and_assoc]
        | k + 3 => simp [eqCells]

theorem scal_cells : ∀ (d : Nat) (t : TypeId) (ks : List Nat), scal P d t = some ks → (isAggB P t = false → ks.length = 1) ∧ ∃ td, P.underlying t = some td
  | 0, _, _, h => by simp [scal] at h
  | d + 1, t, n, h => by
    unfold scal at h
    unfold isAggB
    split at h
    all_goals (rename_i hu)
    · cases h; exact ⟨fun _ => rfl, _, hu⟩
    · cases h; exact ⟨fun _ => rfl, _, hu⟩
    · cases h; exact ⟨fun _ => rfl, _, hu⟩
    · refine ⟨fun hf => ?_, _, hu⟩
      rw [hu] at hf; cases hf
    · cases h

theorem eq_fields {d D : Nat} (hd : ∀ (t : TypeId) (ks : List Nat), scal P d t = some ks → ∀ (us vs : List Value) (xs ys : List V) (r : Bool), us.length = ks.length → vs.length = ks.length → Reps S w us xs → Reps S w vs ys → eqCells ks xs ys = some r →
    ∀ w' : World, (Op.equalIn D t (valOf P t us) (valOf P t vs)).run P w' = .ok r w') :
    ∀ (fs : List Field) (off : Nat) (ks : List Nat), scalFs P (scal P d) off fs = some ks → ∀ (us vs : List Value) (xs ys : List V) (r : Bool), us.length = off + ks.length → vs.length = off + ks.length → Reps S w us xs → Reps S w vs ys → eqCells ks (xs.drop off) (ys.drop off) = some r →
    ∀ w' : World, (Op.eqFields D us.toArray vs.toArray fs).run P w' = .ok r w'
  | [], off, ks, h, us, vs, xs, ys, r, hus, hvs, hux, hvy, hr, w' => by
    simp only [scalFs, Option.some.injEq] at h
    subst h
    have e1 : xs.drop off = [] := List.drop_eq_nil_of_le (by rw [← hux.1, hus]; simp)
    have e2 : ys.drop off = [] := List.drop_eq_nil_of_le (by rw [← hvy.1, hvs]; simp)
    rw [e1, e2] at hr
    simp only [eqCells, Option.some.injEq] at hr
    subst hr
    simp [Op.eqFields]
  | f :: fs, off, ks, h, us, vs, xs, ys, r, hus, hvs, hux, hvy, hr, w' => by
    simp only [scalFs] at h
    split at h
    case isFalse => cases h
    case isTrue hf =>
    obtain ⟨hname, hoff⟩ := hf
    cases hg : scal P d f.type with
    | none => rw [hg] at h; cases h
    | some k1 =>
      rw [hg] at h
      simp only [Option.bind_some] at h
      split at h
      case isFalse => cases h
      case isTrue hc =>
      cases hl : scalFs P (scal P d) (off + k1.length) fs with
      | none => rw [hl] at h; cases h
      | some l =>
        rw [hl] at h
        simp only [Option.map_some, Option.some.injEq] at h
        subst h
        simp only [List.length_append] at hus hvs
        obtain ⟨hone, td, htd⟩ := scal_cells _ _ _ hg
        have hx1 : (xs.drop off) = ((xs.drop off).take k1.length) ++ xs.drop (off + k1.length) := by rw [← List.drop_drop, List.take_append_drop]
        have hy1 : (ys.drop off) = ((ys.drop off).take k1.length) ++ ys.drop (off + k1.length) := by rw [← List.drop_drop, List.take_append_drop]
        have hxl : ((xs.drop off).take k1.length).length = k1.length := by rw [List.length_take, List.length_drop, ← hux.1, hus]; omega
        have hyl : ((ys.drop off).take k1.length).length = k1.length := by rw [List.length_take, List.length_drop, ← hvy.1, hvs]; omega
        rw [hx1, hy1, eqCells_append hxl hyl] at hr
        cases he : eqCells k1 ((xs.drop off).take k1.length) ((ys.drop off).take k1.length) with
        | none => rw [he] at hr; cases hr
        | some a =>
          rw [he] at hr
          simp only [Option.bind_some] at hr
          cases he2 : eqCells l (xs.drop (off + k1.length)) (ys.drop (off + k1.length)) with
          | none => rw [he2] at hr; cases hr
          | some b =>
            rw [he2] at hr
            simp only [Option.map_some, Option.some.injEq] at hr
            have p1 := part_run htd us f.offset (by rw [hoff, hc]; omega) (fun ha => by rw [hc, hone ha]; exact Nat.le_refl _) w'
            have p2 := part_run htd vs f.offset (by rw [hoff, hc]; omega) (fun ha => by rw [hc, hone ha]; exact Nat.le_refl _) w'
            rw [hoff, hc] at p1 p2
            have q := hd f.type k1 hg ((us.drop off).take k1.length) ((vs.drop off).take k1.length) _ _ a (by rw [List.length_take, List.length_drop, hus]; omega) (by rw [List.length_take, List.length_drop, hvs]; omega)
              ((hux.drop off).take _) ((hvy.drop off).take _) he w'
            have ih := eq_fields hd fs (off + k1.length) l hl us vs xs ys b (by omega) (by omega) hux hvy he2 w'
            simp only [Op.eqFields, hname, ne_eq, not_false_eq_true, if_true, Sem.run_bind, hoff, p1, p2, Result.andThen_ok, q]
            subst hr
            cases a
            · simp
            · simp [ih]

theorem eq_scal : ∀ (d : Nat) (t : TypeId) (ks : List Nat), scal P d t = some ks → ∀ (D : Nat), d ≤ D → ∀ (us vs : List Value) (xs ys : List V) (r : Bool), us.length = ks.length → vs.length = ks.length → Reps S w us xs → Reps S w vs ys → eqCells ks xs ys = some r →
    ∀ w' : World, (Op.equalIn D t (valOf P t us) (valOf P t vs)).run P w' = .ok r w'
  | 0, _, _, h, _, _, _, _, _, _, _, _, _, _, _, _ => by simp [scal] at h
  | d + 1, t, ks, h, D, hD, us, vs, xs, ys, r, hus, hvs, hux, hvy, hr => by
    intro w'
    obtain ⟨D, rfl⟩ : ∃ k, D = k + 1 := ⟨D - 1, by omega⟩
    have one : isAggB P t = false → ks.length = 1 → ∃ u v x y, us = [u] ∧ vs = [v] ∧ xs = [x] ∧ ys = [y] ∧ Rep S w u x ∧ Rep S w v y ∧ valOf P t us = u ∧ valOf P t vs = v := by
      intro ha hn
      rw [hn] at hus hvs
      match us, vs, xs, ys, hus, hvs, hux, hvy with
      | [u], [v], [x], [y], _, _, hux, hvy => exact ⟨u, v, x, y, rfl, rfl, rfl, rfl, hux.head, hvy.head, by simp [valOf, ha], by simp [valOf, ha]⟩
      | [u], [v], [], _, _, _, hux, _ => exact absurd hux.1 (by simp)
      | [u], [v], _ :: _ :: _, _, _, _, hux, _ => exact absurd hux.1 (by simp)
      | [u], [v], [x], [], _, _, _, hvy => exact absurd hvy.1 (by simp)
      | [u], [v], [x], _ :: _ :: _, _, _, _, hvy => exact absurd hvy.1 (by simp)
    have hsc := scal_cells _ _ _ h
    unfold scal at h
    split at h
    all_goals (rename_i hu)
    · have ha : isAggB P t = false := by simp [isAggB, hu]
      obtain ⟨u, v, x, y, rfl, rfl, rfl, rfl, h1, h2, e1, e2⟩ := one ha (hsc.1 ha)
      cases h
      rw [e1, e2]
      cases x <;> cases y <;> simp only [eqCells, reduceCtorEq, Option.map_some, Option.some.injEq] at hr
      cases h1; cases h2; rw [run_equalIn_bool _ _ _ _ _ hu]; subst hr; simp
    · have ha : isAggB P t = false := by simp [isAggB, hu]
      obtain ⟨u, v, x, y, rfl, rfl, rfl, rfl, h1, h2, e1, e2⟩ := one ha (hsc.1 ha)
      cases h
      rw [e1, e2]
      cases x <;> cases y <;> simp only [eqCells, reduceCtorEq, Option.map_some] at hr
      split at hr
      · rename_i hk; subst hk
        cases h1; cases h2
        cases hr
        rw [run_equalIn_int _ _ _ _ _ _ _ hu]; simp; rfl
      · cases hr
    · have ha : isAggB P t = false := by simp [isAggB, hu]
      obtain ⟨u, v, x, y, rfl, rfl, rfl, rfl, h1, h2, e1, e2⟩ := one ha (hsc.1 ha)
      cases h
      rw [e1, e2]
      cases x <;> cases y <;> simp only [eqCells, reduceCtorEq, Option.map_some, Option.some.injEq] at hr
      cases h1; cases h2
      rename_i p q
      have hd : (p.data == q.data) = decide (p.data = q.data) := Bool.eq_iff_iff.2 (by simp)
      rw [run_equalIn_string _ _ _ _ _ hu]; subst hr; simp [ByteArray.toList_eq, hd]
    · split at h
      · cases h
      · rename_i fs hst
        have ha : isAggB P t = true := by simp [isAggB, hu]
        have hf : P.fieldsOf t = fs := by simp [Program.fieldsOf, hu]
        simp only [valOf, ha, if_true]
        rw [run_equalIn_struct w' D t _ _ (by rw [hf]; exact hu) (by simpa using hst), hf]
        exact eq_fields (d := d) (D := D) (fun t ks hs us vs xs ys r h1 h2 h3 h4 h5 w' => eq_scal d t ks hs D (by omega) us vs xs ys r h1 h2 h3 h4 h5 w') fs.toList 0 ks h us vs xs ys r (by simpa using hus) (by simpa using hvs) hux hvy (by simpa using hr) w'
    · cases h

theorem scal_guard : ∀ (d : Nat) (t : TypeId) (ks : List Nat), scal P d t = some ks → ∀ D, d ≤ D → P.eqGuardType D t = false
  | 0, _, _, h, _, _ => by simp [scal] at h
  | d + 1, t, ks, h, D, hD => by
    obtain ⟨D, rfl⟩ : ∃ k, D = k + 1 := ⟨D - 1, by omega⟩
    unfold scal at h
    unfold Program.eqGuardType
    split at h
    all_goals (rename_i hu; try rw [hu])
    · split at h
      · cases h
      · rename_i fs _
        simp only [Array.any_eq_false']
        have key : ∀ (l : List Field) (off : Nat) (ks : List Nat), scalFs P (scal P d) off l = some ks → ∀ f ∈ l, P.eqGuardType D f.type = false := by
          intro l
          induction l with
          | nil => intro _ _ _ f hf; cases hf
          | cons g l ih =>
            intro off ks hs f hf
            simp only [scalFs] at hs
            split at hs
            · cases hg : scal P d g.type with
              | none => rw [hg] at hs; cases hs
              | some k1 =>
                rw [hg] at hs
                simp only [Option.bind_some] at hs
                split at hs
                · cases hl : scalFs P (scal P d) (off + k1.length) l with
                  | none => rw [hl] at hs; cases hs
                  | some l' =>
                    rcases List.mem_cons.1 hf with rfl | hf
                    · exact scal_guard d _ _ hg D (by omega)
                    · exact ih _ _ hl f hf
                · cases hs
            · cases hs
        intro f hf
        simp [key fs.toList 0 ks h f (by simpa using hf)]
    · cases h

theorem eqa_run {t : TypeId} {ks : List Nat} (h : scal P 12 t = some ks) {fs : Array Field} (hu : P.underlying t = some (.struct fs)) (neg : Bool) (x y : Operand) (a b : Value) (xs ys : List V) (r : Bool)
    (h1 : Rep S w a (.a xs)) (h2 : Rep S w b (.a ys)) (hr : eqCells ks xs ys = some r) (hl : xs.length = ks.length ∧ ys.length = ks.length) :
    ∀ w' : World, (do eqGuard (if neg then .neq else .eql) t x y a b; binOp (if neg then .neq else .eql) t a b : Sem Value).run P w' = .ok (.bool (if neg then !r else r)) w' := by
  obtain ⟨us, rfl, _, hus⟩ := h1.agg
  obtain ⟨vs, rfl, _, hvs⟩ := h2.agg
  intro w'
  have ha : isAggB P t = true := by simp [isAggB, hu]
  have e := eq_scal 12 t ks h 10000 (by omega) us vs xs ys r (by rw [hus.1, hl.1]) (by rw [hvs.1, hl.2]) hus hvs hr w'
  simp only [valOf, ha, if_true] at e
  have hg : P.eqGuardType P.depth t = false := scal_guard 12 t ks h _ (by unfold Program.depth Made.depth; omega)
  cases neg
  · simp only [Bool.false_eq_true, if_false, Sem.run_bind, run_eqGuard_agg _ _ _ _ _ _ _ hg, Result.andThen_ok, run_eql_struct, e]
  · simp only [if_true, Sem.run_bind, run_eqGuard_agg _ _ _ _ _ _ _ hg, Result.andThen_ok, run_neq_struct, e]
theorem eqCells_length : ∀ {ks : List Nat} {xs ys : List V} {r : Bool}, eqCells ks xs ys = some r → xs.length = ks.length ∧ ys.length = ks.length
  | [], [], [], _, _ => ⟨rfl, rfl⟩
  | [], _ :: _, _, _, h => by simp [eqCells] at h
  | [], [], _ :: _, _, h => by simp [eqCells] at h
  | k :: ks, [], _, _, h => by simp [eqCells] at h
  | k :: ks, x :: xs, [], _, h => by cases x <;> simp [eqCells] at h
  | k :: ks, x :: xs, y :: ys, r, h => by
    have key : ∀ (o : Option Bool) (f : Bool → Bool), o.map f = some r → ∃ a, o = some a := fun o f h => by cases o with
      | none => cases h
      | some a => exact ⟨a, rfl⟩
    match k with
    | 0 => cases x <;> cases y <;> simp only [eqCells, reduceCtorEq] at h; obtain ⟨a, ha⟩ := key _ _ h; have := eqCells_length ha; simp [this.1, this.2]
    | 1 => cases x <;> cases y <;> simp only [eqCells, reduceCtorEq] at h; split at h <;> (try cases h); obtain ⟨a, ha⟩ := key _ _ h; have := eqCells_length ha; simp [this.1, this.2]
    | 2 => cases x <;> cases y <;> simp only [eqCells, reduceCtorEq] at h; obtain ⟨a, ha⟩ := key _ _ h; have := eqCells_length ha; simp [this.1, this.2]
    | k + 3 => simp [eqCells] at h
end
end Go.VM
/-
  The other quiet operations: fields, elements, loads, pieces, struct values, lengths. No program is named here.
-/
namespace Go.VM
open Go.RowKit

section
variable {P : Program} {S : Nat → Prop} {w : World}

theorem un_run (op : UnOp) (a : Value) (v1 v : V) (h1 : Rep S w a v1) (hv : unV op v1 = some v) : ∃ u, Rep S w u v ∧ ∀ w' : World, (Op.unary op a).run P w' = .ok u w' := by
  cases v1 with
  | i k m =>
    cases h1
    cases op <;> simp only [unV, reduceCtorEq, Option.some.injEq] at hv
    all_goals (subst hv; exact ⟨_, .i _ _, fun w' => by simp [Op.unary, Op.intArith, Op.intBits, bitsV]⟩)
  | b m =>
    cases h1
    cases op <;> simp only [unV, reduceCtorEq, Option.some.injEq] at hv
    subst hv; exact ⟨_, .b _, fun w' => by simp [Op.unary]⟩
  | _ => simp [unV] at hv

theorem sub_some {cs r : List V} {off n : Nat} (h : sub cs off n = some r) : off + n ≤ cs.length ∧ r = (cs.drop off).take n := by
  unfold sub at h; split at h
  · cases h; exact ⟨‹_›, rfl⟩
  · cases h

theorem Reps.sub {vs : List Value} {cs r : List V} {off n : Nat} (h : Reps S w vs cs) (hs : sub cs off n = some r) : Reps S w ((vs.drop off).take n) r := by
  obtain ⟨_, rfl⟩ := sub_some hs
  exact (h.drop off).take n

theorem fld_run {t : TypeId} {fs : Array Field} {i : Nat} {f : Field} (hu : P.underlying t = some (.struct fs)) (hf : fs[i]? = some f) (hok : ((P.underlying f.type).isSome && (isAggB P f.type || P.cellsOf f.type == 1)) = true)
    (a : Value) (cs r : List V) (v : V) (h1 : Rep S w a (.a cs)) (hs : sub cs f.offset (P.cellsOf f.type) = some r) (hv : (if isAggB P f.type = true then some (V.a r) else r[0]?) = some v) :
    ∃ u, Rep S w u v ∧ ∀ w' : World, (Instr.field t a i).run P w' = .ok u w' := by
  obtain ⟨us, rfl, hc, hr⟩ := h1.agg
  obtain ⟨hle, rfl⟩ := sub_some hs
  have hrs := hr.sub hs
  simp only [Bool.and_eq_true, Bool.or_eq_true, beq_iff_eq] at hok
  obtain ⟨hs1, hs2⟩ := hok
  obtain ⟨d, hd⟩ := Option.isSome_iff_exists.1 hs1
  have hp := part_run hd us f.offset (by rw [hr.1]; exact hle) (fun ha => by
    have : P.cellsOf f.type = 1 := hs2.resolve_left (by rw [ha]; simp)
    omega)
  refine ⟨valOf P f.type ((us.drop f.offset).take (P.cellsOf f.type)), ?_, fun w' => ?_⟩
  · unfold valOf
    cases ha : isAggB P f.type with
    | true =>
      rw [ha] at hv
      simp only [if_true, Option.some.injEq] at hv ⊢
      subst hv
      exact Rep.mk_agg (fun x hx => hc x (List.mem_of_mem_drop (List.mem_of_mem_take hx))) hrs
    | false =>
      rw [ha] at hv
      simp only [Bool.false_eq_true, if_false] at hv ⊢
      obtain ⟨u, hu', hru⟩ := hrs.getD hv
      have : List.headD ((us.drop f.offset).take (P.cellsOf f.type)) undef = u := by
        revert hu'; cases ((us.drop f.offset).take (P.cellsOf f.type)) <;> simp
      rw [this]; exact hru
  · simp only [Instr.field, Sem.run_bind, run_underlying hu, Result.andThen_ok, hf, asAgg, Sem.run_pure]
    exact hp w'

theorem idx_run {t : TypeId} (hu : P.underlying t = some .string) (a b : Value) (x : List UInt8) (k : IntKind) (n : Int) (c : UInt8) (h1 : Rep S w a (.s x)) (h2 : Rep S w b (.i k n)) (h0 : 0 ≤ n) (hc : x[n.toNat]? = some c) :
    ∃ u, Rep S w u (.i .u8 c.toNat) ∧ ∀ w' : World, (Instr.index t a b).run P w' = .ok u w' := by
  cases h1; cases h2
  rename_i s
  refine ⟨_, .i _ _, fun w' => ?_⟩
  have hs : s[n.toNat]? = some c := by
    rw [Array.getElem?_toList] at hc
    have hlt : n.toNat < s.data.size := (Array.getElem?_eq_some_iff.1 hc).1
    have hlt' : n.toNat < s.size := hlt
    rw [getElem?_pos s n.toNat hlt']
    have := (Array.getElem?_eq_some_iff.1 hc).2
    exact congrArg some this
  simp [Instr.index, asIntOf, run_underlying hu, h0, hs]

theorem ix_run {t e : TypeId} (hu : P.underlying t = some (.slice e)) (he : (P.underlying e).isSome = true) (a b : Value) (es : List V) (k : IntKind) (n : Int) (x : V) (h1 : Rep S w a (.l es)) (h2 : Rep S w b (.i k n))
    (h0 : 0 ≤ n) (hx : es[n.toNat]? = some x) (hl : x.cells.length = P.cellsOf e) : ∃ u, Rep S w u (.r x.cells) ∧ ∀ w' : World, (Instr.indexAt t a b).run P w' = .ok u w' := by
  obtain ⟨ad, c, k', vs, rfl, hk, hcell, hr, hc, hd⟩ := h1.slice
  cases h2
  have hlt : n.toNat < es.length := (List.getElem?_eq_some_iff.1 hx).1
  have hk' : k' = P.cellsOf e := by rw [← hl]; exact (hk x (List.mem_of_getElem? hx)).symm
  subst hk'
  rcases hd with rfl | ⟨ad, rfl, hs, hu'⟩
  · simp at hlt
  obtain ⟨d, hd⟩ := Option.isSome_iff_exists.1 he
  refine ⟨.pointer (some (ad.add (n.toNat * P.cellsOf e))), .r _ _ ((vs.drop (n.toNat * P.cellsOf e)).take (P.cellsOf e)) (by rw [add_block]; exact hs) ?_ ?_ ?_ ?_, fun w' => ?_⟩
  · intro y hy; exact hcell y (List.mem_flatMap.2 ⟨x, List.mem_of_getElem? hx, hy⟩)
  · rw [← flatc_at hk hx, List.length_take, List.length_drop, List.length_take, List.length_drop, hr.1]
  · intro j u hj
    rw [List.getElem?_take] at hj
    split at hj
    · rw [List.getElem?_drop] at hj
      rw [add_add]; exact hu' _ u hj
    · cases hj
  · intro j u y hj hy
    rw [← flatc_at hk hx] at hy
    exact ((hr.drop _).take _).2 j u y hj hy
  · have : n < (es.length : Int) := by omega
    have h48 : (Instr.indexAt t (.slice (some ad) es.length c) (.int k n)).run P w' = .ok (.pointer (some (ad.add (n.toNat * P.cellsOf e)))) w' := by
      simp [Instr.indexAt, asIntOf, run_underlying hu, h0, this, sizeOf_run hd]
    exact h48

theorem fa_run {t : TypeId} {fs : Array Field} {i : Nat} {f : Field} (hu : P.underlying t = some (.struct fs)) (hf : fs[i]? = some f) (hpos : 0 < P.cellsOf f.type)
    (a : Value) (cs r : List V) (h1 : Rep S w a (.r cs)) (hs : sub cs f.offset (P.cellsOf f.type) = some r) :
    ∃ u, Rep S w u (.r r) ∧ ∀ w' : World, (Instr.fieldAt t a i).run P w' = .ok u w' := by
  obtain ⟨ad, vs, rfl, hS, hc, hr, hcell⟩ := h1.ptr
  have hrs := hr.sub hs
  obtain ⟨hle, rfl⟩ := sub_some hs
  obtain ⟨i0, hi0⟩ : ∃ i0, P.info? f.type = some i0 := by
    unfold Program.cellsOf at hpos
    cases h : P.info? f.type with
    | none => rw [h] at hpos; simp at hpos
    | some i0 => exact ⟨i0, rfl⟩
  refine ⟨.pointer (some (ad.add f.offset)), .r _ _ _ (by rw [add_block]; exact hS) (fun x hx => hc x (List.mem_of_mem_drop (List.mem_of_mem_take hx))) hrs.1 (fun j u hj => ?_) hrs.2, fun w' => ?_⟩
  · rw [List.getElem?_take] at hj
    split at hj
    · rw [List.getElem?_drop] at hj
      rw [add_add]; exact hcell _ u hj
    · cases hj
  · have hne : P.cellsOf f.type ≠ 0 := by omega
    simp [Instr.fieldAt, run_underlying hu, hf, Instr.sureAddr, fieldPlace, run_sizeOf w' hi0, hne]

theorem pix_run {t e : TypeId} {len : Nat} (hu : P.underlying t = some (.array len e)) (he : (P.underlying e).isSome = true) (a b : Value) (cs r : List V) (k : IntKind) (n : Int) (h1 : Rep S w a (.r cs)) (h2 : Rep S w b (.i k n))
    (h0 : 0 ≤ n) (hn : n < (len : Int)) (hs : sub cs (n.toNat * P.cellsOf e) (P.cellsOf e) = some r) : ∃ u, Rep S w u (.r r) ∧ ∀ w' : World, (Instr.indexAt t a b).run P w' = .ok u w' := by
  obtain ⟨ad, vs, rfl, hS, hc, hr, hcell⟩ := h1.ptr
  have hrs := hr.sub hs
  obtain ⟨hle, rfl⟩ := sub_some hs
  cases h2
  obtain ⟨d, hd⟩ := Option.isSome_iff_exists.1 he
  refine ⟨.pointer (some (ad.add (n.toNat * P.cellsOf e))), .r _ _ _ (by rw [add_block]; exact hS) (fun x hx => hc x (List.mem_of_mem_drop (List.mem_of_mem_take hx))) hrs.1 (fun j u hj => ?_) hrs.2, fun w' => ?_⟩
  · rw [List.getElem?_take] at hj
    split at hj
    · rw [List.getElem?_drop] at hj
      rw [add_add]; exact hcell _ u hj
    · cases hj
  · simp [Instr.indexAt, asIntOf, run_underlying hu, h0, hn, sizeOf_run hd, Instr.sureAddr]

theorem aix_run {t e : TypeId} {len : Nat} (hu : P.underlying t = some (.array len e)) (hok : ((P.underlying e).isSome && (isAggB P e || P.cellsOf e == 1)) = true)
    (a b : Value) (cs r : List V) (k : IntKind) (n : Int) (v : V) (h1 : Rep S w a (.a cs)) (h2 : Rep S w b (.i k n)) (h0 : 0 ≤ n) (hn : n < (len : Int)) (hs : sub cs (n.toNat * P.cellsOf e) (P.cellsOf e) = some r) (hv : (if isAggB P e = true then some (V.a r) else r[0]?) = some v) :
    ∃ u, Rep S w u v ∧ ∀ w' : World, (Instr.index t a b).run P w' = .ok u w' := by
  obtain ⟨us, rfl, hc, hr⟩ := h1.agg
  have hrs := hr.sub hs
  obtain ⟨hle, rfl⟩ := sub_some hs
  cases h2
  simp only [Bool.and_eq_true, Bool.or_eq_true, beq_iff_eq] at hok
  obtain ⟨hs1, hs2⟩ := hok
  obtain ⟨d, hd⟩ := Option.isSome_iff_exists.1 hs1
  have hp := part_run hd us (n.toNat * P.cellsOf e) (by rw [hr.1]; exact hle) (fun ha => by
    have : P.cellsOf e = 1 := hs2.resolve_left (by rw [ha]; simp)
    omega)
  refine ⟨valOf P e ((us.drop (n.toNat * P.cellsOf e)).take (P.cellsOf e)), ?_, fun w' => ?_⟩
  · unfold valOf
    cases ha : isAggB P e with
    | true =>
      rw [ha] at hv
      simp only [if_true, Option.some.injEq] at hv ⊢
      subst hv
      exact Rep.mk_agg (fun x hx => hc x (List.mem_of_mem_drop (List.mem_of_mem_take hx))) hrs
    | false =>
      rw [ha] at hv
      simp only [Bool.false_eq_true, if_false] at hv ⊢
      obtain ⟨u, hu', hru⟩ := hrs.getD hv
      have : List.headD ((us.drop (n.toNat * P.cellsOf e)).take (P.cellsOf e)) undef = u := by
        revert hu'; cases ((us.drop (n.toNat * P.cellsOf e)).take (P.cellsOf e)) <;> simp
      rw [this]; exact hru
  · have := hp w'
    simp [Instr.index, asIntOf, run_underlying hu, h0, hn, sizeOf_run hd, this]

theorem load_run {t : TypeId} (hok : ((P.underlying t).isSome && (isAggB P t || P.cellsOf t == 1)) = true) (a : Value) (cs : List V) (v : V) (h1 : Rep S w a (.r cs)) (hl : cs.length = P.cellsOf t)
    (hv : (if isAggB P t = true then some (V.a cs) else cs[0]?) = some v) : ∃ u, Rep S w u v ∧ ∀ w' : World, (∀ p : Addr, S p.block → w'.cell? p = w.cell? p) → (Instr.loadAt t a).run P w' = .ok u w' := by
  obtain ⟨ad, vs, rfl, hS, hc, hr, hcell⟩ := h1.ptr
  simp only [Bool.and_eq_true, Bool.or_eq_true, beq_iff_eq] at hok
  obtain ⟨hs1, hs2⟩ := hok
  obtain ⟨d, hd⟩ := Option.isSome_iff_exists.1 hs1
  cases ha : isAggB P t with
  | true =>
    rw [ha] at hv
    simp only [if_true, Option.some.injEq] at hv
    subst hv
    refine ⟨.agg vs.toArray, Rep.mk_agg hc hr, fun w' hw => ?_⟩
    have hL : (loadCells ad vs.length).run P w' = .ok vs.toArray w' := run_loadCells_list w' ad vs fun j u hj => (hw _ (by rw [add_block]; exact hS)).trans (hcell j u hj)
    simp only [Instr.loadAt, Instr.sureAddr, Sem.run_bind, Sem.run_pure, Result.andThen_ok, loadVar, isAgg_run hd, ha, if_true, sizeOf_run hd, ← hl, ← hr.1, hL]
  | false =>
    rw [ha] at hv
    simp only [Bool.false_eq_true, if_false] at hv
    obtain ⟨u, hu', hru⟩ := hr.getD hv
    refine ⟨u, hru, fun w' hw => ?_⟩
    have h0 : w'.cell? ad = some u := by
      have := (hw (ad.add 0) (by rw [add_block]; exact hS)).trans (hcell 0 u hu')
      simpa [Addr.add] using this
    simp only [Instr.loadAt, Instr.sureAddr, Sem.run_bind, Sem.run_pure, Result.andThen_ok, loadVar, isAgg_run hd, ha, Bool.false_eq_true, if_false]
    rw [run_load]
    simp [h0]

theorem bnds_run {n c : Nat} (hc : n ≤ c) (isS : Bool) (lo hi : Option Value) (bs : List V) (p : Nat × Nat) (hr : Reps S w (lo.toList ++ hi.toList) bs) (hb : bnds n lo.isSome hi.isSome bs = some p) :
    p.1 ≤ p.2 ∧ p.2 ≤ n ∧ ∀ w' : World, (Instr.sliceBounds isS n c lo hi none).run P w' = .ok (p.1, p.2, c) w' := by
  cases lo with
  | none =>
    cases hi with
    | none =>
      match bs, hr with
      | [], _ => simp only [bnds, Option.isSome_none, Option.some.injEq] at hb; subst hb; exact ⟨Nat.zero_le _, Nat.le_refl _, fun w' => by simp [Instr.sliceBounds]⟩
      | _ :: _, hr => exact absurd hr.1 (by simp)
    | some h =>
      match bs, hr with
      | [], hr => exact absurd hr.1 (by simp)
      | [b], hr =>
        have hb1 := hr.head
        cases b <;> simp only [bnds, Option.isSome_none, Option.isSome_some, reduceCtorEq] at hb
        split at hb
        · rename_i k m hm
          cases hb; cases hb1
          refine ⟨Nat.zero_le _, by show m.toNat ≤ n; omega, fun w' => ?_⟩
          simp [Instr.sliceBounds, Instr.sliceBound, asIntOf, hm.1, (by omega : m ≤ (c : Int))]
        · cases hb
      | _ :: _ :: _, hr => exact absurd hr.1 (by simp)
  | some l =>
    cases hi with
    | none =>
      match bs, hr with
      | [], hr => exact absurd hr.1 (by simp)
      | [b], hr =>
        have hb1 := hr.head
        cases b <;> simp only [bnds, Option.isSome_none, Option.isSome_some, reduceCtorEq] at hb
        split at hb
        · rename_i k m hm
          cases hb; cases hb1
          refine ⟨by show m.toNat ≤ n; omega, Nat.le_refl _, fun w' => ?_⟩
          simp [Instr.sliceBounds, Instr.sliceBound, asIntOf, hm.1, hm.2]
        · cases hb
      | _ :: _ :: _, hr => exact absurd hr.1 (by simp)
    | some h =>
      match bs, hr with
      | [], hr => exact absurd hr.1 (by simp)
      | [_], hr => exact absurd hr.1 (by simp)
      | [b, b'], hr =>
        have hb1 := hr.head
        have hb2 := hr.tail.head
        cases b <;> cases b' <;> simp only [bnds, Option.isSome_some, reduceCtorEq] at hb
        split at hb
        · rename_i k m k' m' hm
          cases hb; cases hb1; cases hb2
          have e' : ((m'.toNat : Nat) : Int) = m' := Int.toNat_of_nonneg (by omega)
          refine ⟨by show m.toNat ≤ m'.toNat; omega, by show m'.toNat ≤ n; omega, fun w' => ?_⟩
          simp [Instr.sliceBounds, Instr.sliceBound, asIntOf, hm.1, hm.2.1, (by omega : m' ≤ (c : Int)), (by omega : 0 ≤ m'), e']
        · cases hb
      | _ :: _ :: _ :: _, hr => exact absurd hr.1 (by simp)

theorem slcs_run {t : TypeId} (hu : P.underlying t = some .string) (lo hi : Option Value) (a : Value) (x : List UInt8) (bs : List V) (p : Nat × Nat) (h1 : Rep S w a (.s x)) (hr : Reps S w (lo.toList ++ hi.toList) bs) (hb : bnds x.length lo.isSome hi.isSome bs = some p) :
    ∃ u, Rep S w u (.s ((x.take p.2).drop p.1)) ∧ ∀ w' : World, (Instr.sliceAt t a lo hi none).run P w' = .ok u w' := by
  cases h1
  rename_i s
  obtain ⟨h1, h2, h3⟩ := bnds_run (P := P) (c := s.size) (Nat.le_of_eq (by simp)) false lo hi bs p hr hb
  have e : (s.extract p.1 p.2).data.toList = (s.data.toList.take p.2).drop p.1 := by
    simp [List.extract_eq_take_drop, List.drop_take]
  refine ⟨.string (s.extract p.1 p.2), by rw [← e]; exact .s _, fun w' => ?_⟩
  have h3' := h3 w'
  rw [run_sliceAt_string _ _ _ _ _ _ hu]
  simp only [Instr.slice, Sem.run_bind, run_underlying hu, Result.andThen_ok]
  simp only [Array.length_toList] at h3'
  have e2 : s.data.size = s.size := rfl
  rw [e2] at h3'
  simp [h3']

theorem slc_run {t e : TypeId} (hu : P.underlying t = some (.slice e)) (he : (P.underlying e).isSome = true) (lo hi : Option Value) (a : Value) (es : List V) (bs : List V) (p : Nat × Nat) (h1 : Rep S w a (.l es)) (hk : es.all (fun x => x.cells.length == P.cellsOf e) = true)
    (hr : Reps S w (lo.toList ++ hi.toList) bs) (hb : bnds es.length lo.isSome hi.isSome bs = some p) :
    ∃ u, Rep S w u (.l ((es.take p.2).drop p.1)) ∧ ∀ w' : World, (Instr.sliceAt t a lo hi none).run P w' = .ok u w' := by
  obtain ⟨ad, c, k', vs, rfl, _, hcell, hrs, hc, hd⟩ := h1.slice
  have hk1 : ∀ x ∈ es, x.cells.length = P.cellsOf e := fun x hx => by simpa using List.all_eq_true.1 hk x hx
  obtain ⟨h1, h2, h3⟩ := bnds_run (P := P) hc true lo hi bs p hr hb
  obtain ⟨d, hd'⟩ := Option.isSome_iff_exists.1 he
  have hel : P.elem t = e := by simp [Program.elem, hu]
  have hlen : ((es.take p.2).drop p.1).length = p.2 - p.1 := by rw [List.length_drop, List.length_take]; omega
  refine ⟨.slice (if c = p.1 then ad else ad.map (·.add (p.1 * P.cellsOf e))) ((es.take p.2).drop p.1).length (c - p.1), ?_, fun w' => ?_⟩
  · have hk2 : ∀ x ∈ (es.take p.2).drop p.1, x.cells.length = P.cellsOf e := fun x hx => hk1 x (List.mem_of_mem_take (List.mem_of_mem_drop hx))
    have hfl : flatc ((es.take p.2).drop p.1) = ((flatc es).take (p.2 * P.cellsOf e)).drop (p.1 * P.cellsOf e) := by
      rw [flatc_take _ hk1, flatc_drop _ (fun x hx => hk1 x (List.mem_of_mem_take hx))]
    refine Rep.mk_slice hk2 ?_ (vs := (vs.take (p.2 * P.cellsOf e)).drop (p.1 * P.cellsOf e)) ?_ (by rw [hlen]; omega) ?_
    · rw [hfl]; exact fun x hx => hcell x (List.mem_of_mem_take (List.mem_of_mem_drop hx))
    · rw [hfl]; exact (hrs.take _).drop _
    · by_cases hz : (es.take p.2).drop p.1 = []
      · exact .inl hz
      · refine .inr ?_
        have hpos : 0 < p.2 - p.1 := by rw [← hlen]; exact List.length_pos_iff.2 hz
        have hne : c ≠ p.1 := by omega
        rcases hd with rfl | ⟨ad, rfl, hs, hu'⟩
        · simp at hz
        · refine ⟨ad.add (p.1 * P.cellsOf e), by simp [hne], by rw [add_block]; exact hs, fun j u hj => ?_⟩
          rw [List.getElem?_drop, List.getElem?_take] at hj
          split at hj
          · rw [add_add]; exact hu' _ u hj
          · cases hj
  · rw [run_sliceAt_slice _ _ _ _ _ _ (by rw [hel]; exact hu)]
    simp only [Instr.slice, Sem.run_bind, run_underlying hu, Result.andThen_ok, h3 w', sizeOf_run hd', Sem.run_pure, hlen]
end
end Go.VM
/-
  Struct values, slice literals, lengths, max and min, calls. No program is named here.
-/
namespace Go.VM
open Go.RowKit

section
variable {P : Program} {S : Nat → Prop} {w : World}

theorem foldl_get : ∀ (l : List Value) (k off : Nat) (cs : Array Value), off + k + l.length ≤ cs.size → ∀ j : Nat,
    ((l.zipIdx k).foldl (fun cs (p : Value × Nat) => cs.setIfInBounds (off + p.2) p.1) cs)[j]? = if off + k ≤ j ∧ j < off + k + l.length then l[j - (off + k)]? else cs[j]?
  | [], k, off, cs, _, j => by simp; omega
  | v :: l, k, off, cs, h, j => by
    simp only [List.zipIdx_cons, List.foldl_cons]
    simp only [List.length_cons] at h
    rw [foldl_get l (k + 1) off _ (by simp; omega) j, Array.getElem?_setIfInBounds]
    by_cases h1 : j = off + k
    · subst h1
      rw [if_neg (by omega), if_pos rfl, if_pos (show off + k < cs.size by omega), if_pos (show off + k ≤ off + k ∧ off + k < off + k + (v :: l).length from ⟨by omega, by rw [List.length_cons]; omega⟩)]
      simp
    · by_cases h2 : off + (k + 1) ≤ j ∧ j < off + (k + 1) + l.length
      · rw [if_pos h2, if_pos ⟨by omega, by simp; omega⟩]
        obtain ⟨m, rfl⟩ : ∃ m, j = off + k + 1 + m := ⟨j - (off + k + 1), by omega⟩
        rw [show off + k + 1 + m - (off + (k + 1)) = m from by omega, show off + k + 1 + m - (off + k) = m + 1 from by omega]
        simp
      · rw [if_neg h2, if_neg (fun e => h1 e.symm), if_neg (by simp; omega)]
theorem foldl_size : ∀ (l : List Value) (k off : Nat) (cs : Array Value), ((l.zipIdx k).foldl (fun cs (p : Value × Nat) => cs.setIfInBounds (off + p.2) p.1) cs).size = cs.size
  | [], _, _, _ => rfl
  | v :: l, k, off, cs => by simp only [List.zipIdx_cons, List.foldl_cons]; rw [foldl_size l]; simp
theorem foldl_set (l : List Value) (off : Nat) (cs : Array Value) (h : off + l.length ≤ cs.size) :
    ((l.zipIdx 0).foldl (fun cs (p : Value × Nat) => cs.setIfInBounds (off + p.2) p.1) cs).toList = cs.toList.take off ++ l ++ cs.toList.drop (off + l.length) := by
  apply List.ext_getElem?
  intro j
  rw [Array.getElem?_toList, foldl_get l 0 off cs (by simpa using h) j]
  simp only [Nat.add_zero]
  by_cases h1 : j < off
  · rw [if_neg (by omega), List.append_assoc, List.getElem?_append_left (by simp; omega), List.getElem?_take, if_pos h1, Array.getElem?_toList]
  · have hl : (cs.toList.take off).length = off := by simp; omega
    rw [List.append_assoc, List.getElem?_append_right (by omega), hl]
    by_cases h2 : j < off + l.length
    · rw [if_pos ⟨by omega, h2⟩, List.getElem?_append_left (by omega)]
    · rw [if_neg (by omega), List.getElem?_append_right (by omega), List.getElem?_drop, Array.getElem?_toList]
      congr 1; omega

theorem Reps.splice {us vs : List Value} {cs xs : List V} (h : Reps S w us cs) (h' : Reps S w vs xs) (off : Nat) : Reps S w (us.take off ++ vs ++ us.drop (off + vs.length)) (splice cs off xs) := by
  unfold VM.splice
  rw [h'.1]
  exact ((h.take off).append h').append (h.drop _)
theorem splice_mem {cs xs : List V} {off : Nat} (h : ∀ x ∈ cs, x.cell = true) (h' : ∀ x ∈ xs, x.cell = true) : ∀ x ∈ splice cs off xs, x.cell = true := by
  unfold splice
  intro x hx
  simp only [List.mem_append] at hx
  rcases hx with (hx | hx) | hx
  · exact h x (List.mem_of_mem_take hx)
  · exact h' x hx
  · exact h x (List.mem_of_mem_drop hx)
theorem splice_length {cs xs : List V} {off : Nat} (h : off + xs.length ≤ cs.length) : (splice cs off xs).length = cs.length := by
  simp [splice]; omega

theorem fill_run {place : Nat → Option (Nat × Nat)} : ∀ (ps : List (Nat × Value)) (pl : List (Nat × Nat)) (xs : List V) (cells : Array Value) (z r : List V),
    (∀ (j : Nat) p q, ps[j]? = some p → pl[j]? = some q → place p.1 = some q) → Reps S w (ps.map (·.2)) xs → Reps S w cells.toList z → (∀ x ∈ z, x.cell = true) → bldV z pl xs = some r →
    ∃ cells', Instr.fill place cells ps = some cells' ∧ Reps S w cells'.toList r ∧ ∀ x ∈ r, x.cell = true
  | [], pl, xs, cells, z, r, _, hx, hz, hc, hb => by
    have : xs = [] := List.eq_nil_of_length_eq_zero (by simpa using hx.1.symm)
    subst this
    cases pl with
    | nil => simp only [bldV, Option.some.injEq] at hb; subst hb; exact ⟨cells, rfl, hz, hc⟩
    | cons => simp [bldV] at hb
  | (i, v) :: ps, pl, xs, cells, z, r, hp, hx, hz, hc, hb => by
    match xs, pl, hx, hp, hb with
    | [], _, hx, _, _ => exact absurd hx.1 (by simp)
    | x :: xs, [], _, _, hb => simp [bldV] at hb
    | x :: xs, (off, sz) :: pl, hx, hp, hb =>
      simp only [bldV] at hb
      split at hb
      · rename_i hcond
        have hv := (hx.head).cells
        have h1 := hp 0 (i, v) (off, sz) rfl rfl
        have hsz : v.cells.size = sz := by rw [← Array.length_toList, hv.1]; exact hcond.1
        have hzl : cells.size = z.length := by rw [← Array.length_toList]; exact hz.1
        have hset := foldl_set v.cells.toList off cells (by simp; omega)
        obtain ⟨cells', hf, h2, h3⟩ := fill_run ps pl xs (v.cells.zipIdx.foldl (fun cs (c, j) => cs.setIfInBounds (off + j) c) cells) (splice z off x.cells) r
          (fun j p q h h' => hp (j + 1) p q (by simpa using h) (by simpa using h')) (hx.tail) (by
            have e : (v.cells.zipIdx.foldl (fun cs (c, j) => cs.setIfInBounds (off + j) c) cells) = ((v.cells.toList.zipIdx 0).foldl (fun cs (p : Value × Nat) => cs.setIfInBounds (off + p.2) p.1) cells) := by
              rw [← Array.foldl_toList, Array.toList_zipIdx]
            rw [e, hset]
            simpa using hz.splice hv off) (splice_mem hc fun x hx => List.all_eq_true.1 hcond.2.2 x hx) hb
        refine ⟨cells', ?_, h2, h3⟩
        unfold Instr.fill
        simp only [h1]
        rw [if_neg (by simp [hsz]; omega)]
        exact hf
      · cases hb

theorem ofCell_rep {v : Value} {x : V} (h : ofCell v = some x) : Rep S w v x ∧ x.cell = true := by
  unfold ofCell at h
  split at h <;> first | (cases h; first | exact ⟨.b _, rfl⟩ | exact ⟨.i _ _, rfl⟩ | exact ⟨.s _, rfl⟩ | exact ⟨.l0 _ _, rfl⟩ | exact ⟨.nf, rfl⟩ | exact ⟨.np, rfl⟩ | exact ⟨.f _ #[] #[] [] [] rfl rfl (by simp) (by simp), rfl⟩) | cases h
theorem ofCells_rep : ∀ {l : List Value} {xs : List V}, ofCells l = some xs → Reps S w l xs ∧ ∀ x ∈ xs, x.cell = true
  | [], xs, h => by simp only [ofCells, Option.some.injEq] at h; subst h; exact ⟨Reps.nil, by simp⟩
  | v :: l, xs, h => by
    simp only [ofCells] at h
    cases h1 : ofCell v with
    | none => rw [h1] at h; cases h
    | some x =>
      rw [h1] at h
      simp only [Option.bind_some] at h
      cases h2 : ofCells l with
      | none => rw [h2] at h; cases h
      | some r =>
        rw [h2] at h
        simp only [Option.bind_some, Option.some.injEq] at h
        subst h
        obtain ⟨r1, c1⟩ := ofCell_rep (S := S) (w := w) h1
        obtain ⟨r2, c2⟩ := ofCells_rep h2
        exact ⟨Reps.cons r1 r2, by simpa [c1] using c2⟩
theorem ofConst_rep {v : Value} {x : V} (h : ofConst v = some x) : Rep S w v x := by
  unfold ofConst at h
  split at h
  · rename_i cs
    cases h1 : ofCells cs.toList with
    | none => rw [h1] at h; cases h
    | some xs =>
      rw [h1] at h
      simp only [Option.map_some, Option.some.injEq] at h
      subst h
      obtain ⟨r, c⟩ := ofCells_rep (S := S) (w := w) h1
      have := Rep.mk_agg c r
      simpa using this
  · exact (ofCell_rep h).1

theorem placed_spec {qs : List (Nat × Nat)} : ∀ {ps : List (Nat × Operand)} {l : List (Nat × Nat)}, placed qs ps = some l → l.length = ps.length ∧ ∀ (j : Nat) p q, ps[j]? = some p → l[j]? = some q → qs[p.1]? = some q
  | [], l, h => by simp only [placed, Option.some.injEq] at h; subst h; exact ⟨rfl, by simp⟩
  | p :: r, l, h => by
    simp only [placed] at h
    cases h1 : qs[p.1]? with
    | none => rw [h1] at h; cases h
    | some q =>
      rw [h1] at h
      simp only [Option.bind_some] at h
      cases h2 : placed qs r with
      | none => rw [h2] at h; cases h
      | some l' =>
        rw [h2] at h
        simp only [Option.bind_some, Option.some.injEq] at h
        subst h
        obtain ⟨h3, h4⟩ := placed_spec h2
        refine ⟨by simp [h3], fun j p' q' hj hj' => ?_⟩
        cases j with
        | zero => simp at hj hj'; subst hj; subst hj'; exact h1
        | succ j => exact h4 j p' q' (by simpa using hj) (by simpa using hj')

theorem bld_run {t : TypeId} {fs : Array Field} (hu : P.underlying t = some (.struct fs)) {z : List V} (hz : zeroCells P t = some z) {qs : List (Nat × Nat)} (hq : places P fs = some qs)
    (ρ : Operand → Value) (parts : Array (Nat × Operand)) {pl : List (Nat × Nat)} (hp : placed qs parts.toList = some pl) (xs r : List V)
    (hr : Reps S w (parts.toList.map fun p => ρ p.2) xs) (hb : bldV z pl xs = some r) :
    ∃ u, Rep S w u (.a r) ∧ ∀ w' : World, (Instr.build t (parts.map fun (i, x) => (i, ρ x))).run P w' = .ok u w' := by
  unfold zeroCells at hz
  cases hi : P.info? t with
  | none => rw [hi] at hz; cases hz
  | some it =>
    rw [hi] at hz
    simp only [Option.bind_some] at hz
    cases hzz : it.zero with
    | none => rw [hzz] at hz; cases hz
    | some zv =>
      rw [hzz] at hz
      simp only [Option.bind_some] at hz
      obtain ⟨r1, c1⟩ := ofCells_rep (S := S) (w := w) hz
      obtain ⟨_, hps⟩ := placed_spec hp
      obtain ⟨cells', hf, h2, h3⟩ := fill_run (S := S) (w := w) (place := (qs.toArray[·]?)) (parts.toList.map fun p => (p.1, ρ p.2)) pl xs zv.cells z r
        (fun j p q hj hj' => by
          rw [List.getElem?_map] at hj
          cases ho : parts.toList[j]? with
          | none => rw [ho] at hj; cases hj
          | some p0 =>
            rw [ho] at hj
            simp only [Option.map_some, Option.some.injEq] at hj
            subst hj
            have := hps j p0 q ho hj'
            simpa using this)
        (by simpa [List.map_map, Function.comp_def] using hr) r1 c1 hb
      refine ⟨.agg cells', ?_, fun w' => ?_⟩
      · have := Rep.mk_agg h3 h2; simpa using this
      · refine run_build w' t _ cells' ?_
        unfold Program.built
        unfold places at hq
        simp only [hi, hu, hzz, hq]
        have e : (parts.map fun (i, x) => (i, ρ x)).toList = parts.toList.map fun p => (p.1, ρ p.2) := by simp
        rw [e]
        exact hf

theorem bld_run_arr {t e : TypeId} {n : Nat} (hu : P.underlying t = some (.array n e)) {z : List V} (hz : zeroCells P t = some z) {ie : TypeInfo} (hie : P.info? e = some ie)
    (ρ : Operand → Value) (parts : Array (Nat × Operand)) (xs r : List V)
    (hr : Reps S w (parts.toList.map fun p => ρ p.2) xs) (hb : bldV z (parts.toList.map fun p => (p.1 * ie.size, ie.size)) xs = some r) :
    ∃ u, Rep S w u (.a r) ∧ ∀ w' : World, (Instr.build t (parts.map fun (i, x) => (i, ρ x))).run P w' = .ok u w' := by
  unfold zeroCells at hz
  cases hi : P.info? t with
  | none => rw [hi] at hz; cases hz
  | some it =>
    rw [hi] at hz
    simp only [Option.bind_some] at hz
    cases hzz : it.zero with
    | none => rw [hzz] at hz; cases hz
    | some zv =>
      rw [hzz] at hz
      simp only [Option.bind_some] at hz
      obtain ⟨r1, c1⟩ := ofCells_rep (S := S) (w := w) hz
      obtain ⟨cells', hf, h2, h3⟩ := fill_run (S := S) (w := w) (place := fun i => some (i * ie.size, ie.size)) (parts.toList.map fun p => (p.1, ρ p.2)) (parts.toList.map fun p => (p.1 * ie.size, ie.size)) xs zv.cells z r
        (fun j p q hj hj' => by
          rw [List.getElem?_map] at hj hj'
          cases ho : parts.toList[j]? with
          | none => rw [ho] at hj; cases hj
          | some p0 =>
            rw [ho] at hj hj'
            simp only [Option.map_some, Option.some.injEq] at hj hj'
            subst hj; subst hj'; rfl)
        (by simpa [List.map_map, Function.comp_def] using hr) r1 c1 hb
      refine ⟨.agg cells', ?_, fun w' => ?_⟩
      · have := Rep.mk_agg h3 h2; simpa using this
      · refine run_build w' t _ cells' ?_
        unfold Program.built
        simp only [hi, hu, hzz, hie]
        have e : (parts.map fun (i, x) => (i, ρ x)).toList = parts.toList.map fun p => (p.1, ρ p.2) := by simp
        rw [e]
        exact hf

theorem max_run : ∀ (r : List Value) (v : Value) (xs : List V) (y : V), Reps S w (v :: r) xs → maxV xs = some y → ∃ u, Rep S w u y ∧ ∀ w' : World, (r.foldlM Builtin.max2 v).run P w' = .ok u w'
  | [], v, xs, y, hr, h => by
    match xs, hr with
    | [], hr => exact absurd hr.1 (by simp)
    | [x], hr =>
      cases x <;> simp only [maxV, maxGo, reduceCtorEq, Option.some.injEq] at h
      subst h
      exact ⟨v, hr.head, fun w' => by simp⟩
    | _ :: _ :: _, hr => exact absurd hr.1 (by simp)
  | u :: r, v, xs, y, hr, h => by
    match xs, hr with
    | [], hr => exact absurd hr.1 (by simp)
    | [x], hr => exact absurd hr.1 (by simp)
    | x :: x' :: xs, hr =>
      have h1 := hr.head
      have h2 := hr.tail.head
      have h3 := hr.tail.tail
      cases x with
      | i k a =>
        cases x' with
        | i k' b =>
          rw [maxV_cons2] at h
          split at h
          · cases h1; cases h2
            obtain ⟨u', hu', hrun⟩ := max_run r (.int k (if b > a then b else a)) (.i k (if b > a then b else a) :: xs) y (Reps.cons (.i _ _) h3) h
            exact ⟨u', hu', fun w' => by simp only [List.foldlM_cons, Sem.run_bind, Builtin.max2, Sem.run_pure, Result.andThen_ok]; exact hrun w'⟩
          · cases h
        | _ => simp [maxV, maxGo] at h
      | _ => simp [maxV] at h
theorem min_run : ∀ (r : List Value) (v : Value) (xs : List V) (y : V), Reps S w (v :: r) xs → minV xs = some y → ∃ u, Rep S w u y ∧ ∀ w' : World, (r.foldlM Builtin.min2 v).run P w' = .ok u w'
  | [], v, xs, y, hr, h => by
    match xs, hr with
    | [], hr => exact absurd hr.1 (by simp)
    | [x], hr =>
      cases x <;> simp only [minV, minGo, reduceCtorEq, Option.some.injEq] at h
      subst h
      exact ⟨v, hr.head, fun w' => by simp⟩
    | _ :: _ :: _, hr => exact absurd hr.1 (by simp)
  | u :: r, v, xs, y, hr, h => by
    match xs, hr with
    | [], hr => exact absurd hr.1 (by simp)
    | [x], hr => exact absurd hr.1 (by simp)
    | x :: x' :: xs, hr =>
      have h1 := hr.head
      have h2 := hr.tail.head
      have h3 := hr.tail.tail
      cases x with
      | i k a =>
        cases x' with
        | i k' b =>
          rw [minV_cons2] at h
          split at h
          · cases h1; cases h2
            obtain ⟨u', hu', hrun⟩ := min_run r (.int k (if b < a then b else a)) (.i k (if b < a then b else a) :: xs) y (Reps.cons (.i _ _) h3) h
            exact ⟨u', hu', fun w' => by simp only [List.foldlM_cons, Sem.run_bind, Builtin.min2, Sem.run_pure, Result.andThen_ok]; exact hrun w'⟩
          · cases h
        | _ => simp [minV, minGo] at h
      | _ => simp [minV] at h

theorem len_run {t e : TypeId} (hu : P.underlying t = some (.slice e)) (v : Value) (es : List V) (h : Rep S w v (.l es)) (ty : TypeId) :
    ∃ u, Rep S w u (.i .i64 es.length) ∧ ∀ w' : World, (Builtin.len_ #[t] ty #[v]).run P w' = .ok u w' := by
  obtain ⟨ad, c, k, vs, rfl, _⟩ := h.slice
  exact ⟨_, .i _ _, fun w' => by simp [Builtin.len_, run_underlying hu, goInt]⟩
theorem slen_run {t : TypeId} (hu : P.underlying t = some .string) (v : Value) (s : List UInt8) (h : Rep S w v (.s s)) (ty : TypeId) :
    ∃ u, Rep S w u (.i .i64 s.length) ∧ ∀ w' : World, (Builtin.len_ #[t] ty #[v]).run P w' = .ok u w' := by
  cases h
  exact ⟨_, .i _ _, fun w' => by simp [Builtin.len_, run_underlying hu, goInt]⟩
end
end Go.VM
