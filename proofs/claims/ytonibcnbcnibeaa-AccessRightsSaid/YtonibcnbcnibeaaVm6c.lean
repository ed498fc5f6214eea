/-
  The other quiet operations: fields, elements, loads, pieces, struct values, lengths. No program is named here.
-/
import Derived.Test.YtonibcnbcnibeaaVm6b
namespace Go.VM
open Go.RowKit

section
variable {P : Program} {S : Nat → Prop} {w : World}

theorem un_run (op : UnOp) (a : Value) (v1 v : V) (h1 : Rep S w a v1) (hv : unV op v1 = some v) : ∃ u, Rep S w u v ∧ ∀ w' : World, (Op.unary op a).run P w' = .ok u w' := by
  cases v1 with
  | i k m =>
    cases h1
    cases op <;> simp only [unV, reduceCtorEq, Option.some.injEq] at hv
    subst hv; exact ⟨_, .i _ _, fun w' => by simp [Op.unary, Op.intArith]⟩
  | b m =>
    cases h1
    cases op <;> simp only [unV, reduceCtorEq, Option.some.injEq] at hv
    subst hv; exact ⟨_, .b _, fun w' => by simp [Op.unary]⟩
  | _ => simp [unV] at hv

theorem sub_some {cs r : List V} {off n : Nat} (h : sub cs off n = some r) : off + n ≤ cs.length ∧ r = (cs.drop off).take n := by
  unfold sub at h; split at h
  · cases h; exact ⟨‹_›, rfl⟩
  · cases h

theorem Reps.sub {vs : List Value} {cs r : List V} {off n : Nat} (h : Reps S w vs cs) (hs : sub cs off n = some r) : Reps S w ((vs.drop off).take n) r := by
  obtain ⟨_, rfl⟩ := sub_some hs
  exact (h.drop off).take n

theorem fld_run {t : TypeId} {fs : Array Field} {i : Nat} {f : Field} (hu : P.underlying t = some (.struct fs)) (hf : fs[i]? = some f) (hok : ((P.underlying f.type).isSome && (isAggB P f.type || P.cellsOf f.type == 1)) = true)
    (a : Value) (cs r : List V) (v : V) (h1 : Rep S w a (.a cs)) (hs : sub cs f.offset (P.cellsOf f.type) = some r) (hv : (if isAggB P f.type = true then some (V.a r) else r[0]?) = some v) :
    ∃ u, Rep S w u v ∧ ∀ w' : World, (Instr.field t a i).run P w' = .ok u w' := by
  obtain ⟨us, rfl, hc, hr⟩ := h1.agg
  obtain ⟨hle, rfl⟩ := sub_some hs
  have hrs := hr.sub hs
  simp only [Bool.and_eq_true, Bool.or_eq_true, beq_iff_eq] at hok
  obtain ⟨hs1, hs2⟩ := hok
  obtain ⟨d, hd⟩ := Option.isSome_iff_exists.1 hs1
  have hp := part_run hd us f.offset (by rw [hr.1]; exact hle) (fun ha => by
    have : P.cellsOf f.type = 1 := hs2.resolve_left (by rw [ha]; simp)
    omega)
  refine ⟨valOf P f.type ((us.drop f.offset).take (P.cellsOf f.type)), ?_, fun w' => ?_⟩
  · unfold valOf
    cases ha : isAggB P f.type with
    | true =>
      rw [ha] at hv
      simp only [if_true, Option.some.injEq] at hv ⊢
      subst hv
      exact Rep.mk_agg (fun x hx => hc x (List.mem_of_mem_drop (List.mem_of_mem_take hx))) hrs
    | false =>
      rw [ha] at hv
      simp only [Bool.false_eq_true, if_false] at hv ⊢
      obtain ⟨u, hu', hru⟩ := hrs.getD hv
      have : List.headD ((us.drop f.offset).take (P.cellsOf f.type)) undef = u := by
        revert hu'; cases ((us.drop f.offset).take (P.cellsOf f.type)) <;> simp
      rw [this]; exact hru
  · simp only [Instr.field, Sem.run_bind, run_underlying hu, Result.andThen_ok, hf, asAgg, Sem.run_pure]
    exact hp w'

theorem idx_run {t : TypeId} (hu : P.underlying t = some .string) (a b : Value) (x : List UInt8) (k : IntKind) (n : Int) (c : UInt8) (h1 : Rep S w a (.s x)) (h2 : Rep S w b (.i k n)) (h0 : 0 ≤ n) (hc : x[n.toNat]? = some c) :
    ∃ u, Rep S w u (.i .u8 c.toNat) ∧ ∀ w' : World, (Instr.index t a b).run P w' = .ok u w' := by
  cases h1; cases h2
  rename_i s
  refine ⟨_, .i _ _, fun w' => ?_⟩
  have hs : s[n.toNat]? = some c := by
    rw [Array.getElem?_toList] at hc
    have hlt : n.toNat < s.data.size := (Array.getElem?_eq_some_iff.1 hc).1
    have hlt' : n.toNat < s.size := hlt
    rw [getElem?_pos s n.toNat hlt']
    have := (Array.getElem?_eq_some_iff.1 hc).2
    exact congrArg some this
  simp [Instr.index, asIntOf, run_underlying hu, h0, hs]

theorem ix_run {t e : TypeId} (hu : P.underlying t = some (.slice e)) (he : (P.underlying e).isSome = true) (a b : Value) (es : List V) (k : IntKind) (n : Int) (x : V) (h1 : Rep S w a (.l es)) (h2 : Rep S w b (.i k n))
    (h0 : 0 ≤ n) (hx : es[n.toNat]? = some x) (hl : x.cells.length = P.cellsOf e) : ∃ u, Rep S w u (.r x.cells) ∧ ∀ w' : World, (Instr.indexAt t a b).run P w' = .ok u w' := by
  obtain ⟨ad, c, k', vs, rfl, hk, hcell, hr, hc, hd⟩ := h1.slice
  cases h2
  have hlt : n.toNat < es.length := (List.getElem?_eq_some_iff.1 hx).1
  have hk' : k' = P.cellsOf e := by rw [← hl]; exact (hk x (List.mem_of_getElem? hx)).symm
  subst hk'
  rcases hd with rfl | ⟨ad, rfl, hs, hu'⟩
  · simp at hlt
  obtain ⟨d, hd⟩ := Option.isSome_iff_exists.1 he
  refine ⟨.pointer (some (ad.add (n.toNat * P.cellsOf e))), .r _ _ ((vs.drop (n.toNat * P.cellsOf e)).take (P.cellsOf e)) (by rw [add_block]; exact hs) ?_ ?_ ?_ ?_, fun w' => ?_⟩
  · intro y hy; exact hcell y (List.mem_flatMap.2 ⟨x, List.mem_of_getElem? hx, hy⟩)
  · rw [← flatc_at hk hx, List.length_take, List.length_drop, List.length_take, List.length_drop, hr.1]
  · intro j u hj
    rw [List.getElem?_take] at hj
    split at hj
    · rw [List.getElem?_drop] at hj
      rw [add_add]; exact hu' _ u hj
    · cases hj
  · intro j u y hj hy
    rw [← flatc_at hk hx] at hy
    exact ((hr.drop _).take _).2 j u y hj hy
  · have : n < (es.length : Int) := by omega
    have h48 : (Instr.indexAt t (.slice (some ad) es.length c) (.int k n)).run P w' = .ok (.pointer (some (ad.add (n.toNat * P.cellsOf e)))) w' := by
      simp [Instr.indexAt, asIntOf, run_underlying hu, h0, this, sizeOf_run hd]
    exact h48

theorem fa_run {t : TypeId} {fs : Array Field} {i : Nat} {f : Field} (hu : P.underlying t = some (.struct fs)) (hf : fs[i]? = some f) (hpos : 0 < P.cellsOf f.type)
    (a : Value) (cs r : List V) (h1 : Rep S w a (.r cs)) (hs : sub cs f.offset (P.cellsOf f.type) = some r) :
    ∃ u, Rep S w u (.r r) ∧ ∀ w' : World, (Instr.fieldAt t a i).run P w' = .ok u w' := by
  obtain ⟨ad, vs, rfl, hS, hc, hr, hcell⟩ := h1.ptr
  have hrs := hr.sub hs
  obtain ⟨hle, rfl⟩ := sub_some hs
  obtain ⟨i0, hi0⟩ : ∃ i0, P.info? f.type = some i0 := by
    unfold Program.cellsOf at hpos
    cases h : P.info? f.type with
    | none => rw [h] at hpos; simp at hpos
    | some i0 => exact ⟨i0, rfl⟩
  refine ⟨.pointer (some (ad.add f.offset)), .r _ _ _ (by rw [add_block]; exact hS) (fun x hx => hc x (List.mem_of_mem_drop (List.mem_of_mem_take hx))) hrs.1 (fun j u hj => ?_) hrs.2, fun w' => ?_⟩
  · rw [List.getElem?_take] at hj
    split at hj
    · rw [List.getElem?_drop] at hj
      rw [add_add]; exact hcell _ u hj
    · cases hj
  · have hne : P.cellsOf f.type ≠ 0 := by omega
    simp [Instr.fieldAt, run_underlying hu, hf, Instr.sureAddr, fieldPlace, run_sizeOf w' hi0, hne]

theorem load_run {t : TypeId} (hok : ((P.underlying t).isSome && (isAggB P t || P.cellsOf t == 1)) = true) (a : Value) (cs : List V) (v : V) (h1 : Rep S w a (.r cs)) (hl : cs.length = P.cellsOf t)
    (hv : (if isAggB P t = true then some (V.a cs) else cs[0]?) = some v) : ∃ u, Rep S w u v ∧ ∀ w' : World, (∀ p : Addr, S p.block → w'.cell? p = w.cell? p) → (Instr.loadAt t a).run P w' = .ok u w' := by
  obtain ⟨ad, vs, rfl, hS, hc, hr, hcell⟩ := h1.ptr
  simp only [Bool.and_eq_true, Bool.or_eq_true, beq_iff_eq] at hok
  obtain ⟨hs1, hs2⟩ := hok
  obtain ⟨d, hd⟩ := Option.isSome_iff_exists.1 hs1
  cases ha : isAggB P t with
  | true =>
    rw [ha] at hv
    simp only [if_true, Option.some.injEq] at hv
    subst hv
    refine ⟨.agg vs.toArray, Rep.mk_agg hc hr, fun w' hw => ?_⟩
    have hL : (loadCells ad vs.length).run P w' = .ok vs.toArray w' := run_loadCells_list w' ad vs fun j u hj => (hw _ (by rw [add_block]; exact hS)).trans (hcell j u hj)
    simp only [Instr.loadAt, Instr.sureAddr, Sem.run_bind, Sem.run_pure, Result.andThen_ok, loadVar, isAgg_run hd, ha, if_true, sizeOf_run hd, ← hl, ← hr.1, hL]
  | false =>
    rw [ha] at hv
    simp only [Bool.false_eq_true, if_false] at hv
    obtain ⟨u, hu', hru⟩ := hr.getD hv
    refine ⟨u, hru, fun w' hw => ?_⟩
    have h0 : w'.cell? ad = some u := by
      have := (hw (ad.add 0) (by rw [add_block]; exact hS)).trans (hcell 0 u hu')
      simpa [Addr.add] using this
    simp only [Instr.loadAt, Instr.sureAddr, Sem.run_bind, Sem.run_pure, Result.andThen_ok, loadVar, isAgg_run hd, ha, Bool.false_eq_true, if_false]
    rw [run_load]
    simp [h0]

theorem bnds_run {n c : Nat} (hc : n ≤ c) (isS : Bool) (lo hi : Option Value) (bs : List V) (p : Nat × Nat) (hr : Reps S w (lo.toList ++ hi.toList) bs) (hb : bnds n lo.isSome hi.isSome bs = some p) :
    p.1 ≤ p.2 ∧ p.2 ≤ n ∧ ∀ w' : World, (Instr.sliceBounds isS n c lo hi none).run P w' = .ok (p.1, p.2, c) w' := by
  cases lo with
  | none =>
    cases hi with
    | none =>
      match bs, hr with
      | [], _ => simp only [bnds, Option.isSome_none, Option.some.injEq] at hb; subst hb; exact ⟨Nat.zero_le _, Nat.le_refl _, fun w' => by simp [Instr.sliceBounds]⟩
      | _ :: _, hr => exact absurd hr.1 (by simp)
    | some h =>
      match bs, hr with
      | [], hr => exact absurd hr.1 (by simp)
      | [b], hr =>
        have hb1 := hr.head
        cases b <;> simp only [bnds, Option.isSome_none, Option.isSome_some, reduceCtorEq] at hb
        split at hb
        · rename_i k m hm
          cases hb; cases hb1
          refine ⟨Nat.zero_le _, by show m.toNat ≤ n; omega, fun w' => ?_⟩
          simp [Instr.sliceBounds, Instr.sliceBound, asIntOf, hm.1, (by omega : m ≤ (c : Int))]
        · cases hb
      | _ :: _ :: _, hr => exact absurd hr.1 (by simp)
  | some l =>
    cases hi with
    | none =>
      match bs, hr with
      | [], hr => exact absurd hr.1 (by simp)
      | [b], hr =>
        have hb1 := hr.head
        cases b <;> simp only [bnds, Option.isSome_none, Option.isSome_some, reduceCtorEq] at hb
        split at hb
        · rename_i k m hm
          cases hb; cases hb1
          refine ⟨by show m.toNat ≤ n; omega, Nat.le_refl _, fun w' => ?_⟩
          simp [Instr.sliceBounds, Instr.sliceBound, asIntOf, hm.1, hm.2]
        · cases hb
      | _ :: _ :: _, hr => exact absurd hr.1 (by simp)
    | some h =>
      match bs, hr with
      | [], hr => exact absurd hr.1 (by simp)
      | [_], hr => exact absurd hr.1 (by simp)
      | [b, b'], hr =>
        have hb1 := hr.head
        have hb2 := hr.tail.head
        cases b <;> cases b' <;> simp only [bnds, Option.isSome_some, reduceCtorEq] at hb
        split at hb
        · rename_i k m k' m' hm
          cases hb; cases hb1; cases hb2
          have e' : ((m'.toNat : Nat) : Int) = m' := Int.toNat_of_nonneg (by omega)
          refine ⟨by show m.toNat ≤ m'.toNat; omega, by show m'.toNat ≤ n; omega, fun w' => ?_⟩
          simp [Instr.sliceBounds, Instr.sliceBound, asIntOf, hm.1, hm.2.1, (by omega : m' ≤ (c : Int)), (by omega : 0 ≤ m'), e']
        · cases hb
      | _ :: _ :: _ :: _, hr => exact absurd hr.1 (by simp)

theorem slcs_run {t : TypeId} (hu : P.underlying t = some .string) (lo hi : Option Value) (a : Value) (x : List UInt8) (bs : List V) (p : Nat × Nat) (h1 : Rep S w a (.s x)) (hr : Reps S w (lo.toList ++ hi.toList) bs) (hb : bnds x.length lo.isSome hi.isSome bs = some p) :
    ∃ u, Rep S w u (.s ((x.take p.2).drop p.1)) ∧ ∀ w' : World, (Instr.sliceAt t a lo hi none).run P w' = .ok u w' := by
  cases h1
  rename_i s
  obtain ⟨h1, h2, h3⟩ := bnds_run (P := P) (c := s.size) (Nat.le_of_eq (by simp)) false lo hi bs p hr hb
  have e : (s.extract p.1 p.2).data.toList = (s.data.toList.take p.2).drop p.1 := by
    simp [List.extract_eq_take_drop, List.drop_take]
  refine ⟨.string (s.extract p.1 p.2), by rw [← e]; exact .s _, fun w' => ?_⟩
  have h3' := h3 w'
  rw [run_sliceAt_string _ _ _ _ _ _ hu]
  simp only [Instr.slice, Sem.run_bind, run_underlying hu, Result.andThen_ok]
  simp only [Array.length_toList] at h3'
  have e2 : s.data.size = s.size := rfl
  rw [e2] at h3'
  simp [h3']

theorem slc_run {t e : TypeId} (hu : P.underlying t = some (.slice e)) (he : (P.underlying e).isSome = true) (lo hi : Option Value) (a : Value) (es : List V) (bs : List V) (p : Nat × Nat) (h1 : Rep S w a (.l es)) (hk : es.all (fun x => x.cells.length == P.cellsOf e) = true)
    (hr : Reps S w (lo.toList ++ hi.toList) bs) (hb : bnds es.length lo.isSome hi.isSome bs = some p) :
    ∃ u, Rep S w u (.l ((es.take p.2).drop p.1)) ∧ ∀ w' : World, (Instr.sliceAt t a lo hi none).run P w' = .ok u w' := by
  obtain ⟨ad, c, k', vs, rfl, _, hcell, hrs, hc, hd⟩ := h1.slice
  have hk1 : ∀ x ∈ es, x.cells.length = P.cellsOf e := fun x hx => by simpa using List.all_eq_true.1 hk x hx
  obtain ⟨h1, h2, h3⟩ := bnds_run (P := P) hc true lo hi bs p hr hb
  obtain ⟨d, hd'⟩ := Option.isSome_iff_exists.1 he
  have hel : P.elem t = e := by simp [Program.elem, hu]
  have hlen : ((es.take p.2).drop p.1).length = p.2 - p.1 := by rw [List.length_drop, List.length_take]; omega
  refine ⟨.slice (if c = p.1 then ad else ad.map (·.add (p.1 * P.cellsOf e))) ((es.take p.2).drop p.1).length (c - p.1), ?_, fun w' => ?_⟩
  · have hk2 : ∀ x ∈ (es.take p.2).drop p.1, x.cells.length = P.cellsOf e := fun x hx => hk1 x (List.mem_of_mem_take (List.mem_of_mem_drop hx))
    have hfl : flatc ((es.take p.2).drop p.1) = ((flatc es).take (p.2 * P.cellsOf e)).drop (p.1 * P.cellsOf e) := by
      rw [flatc_take _ hk1, flatc_drop _ (fun x hx => hk1 x (List.mem_of_mem_take hx))]
    refine Rep.mk_slice hk2 ?_ (vs := (vs.take (p.2 * P.cellsOf e)).drop (p.1 * P.cellsOf e)) ?_ (by rw [hlen]; omega) ?_
    · rw [hfl]; exact fun x hx => hcell x (List.mem_of_mem_take (List.mem_of_mem_drop hx))
    · rw [hfl]; exact (hrs.take _).drop _
    · by_cases hz : (es.take p.2).drop p.1 = []
      · exact .inl hz
      · refine .inr ?_
        have hpos : 0 < p.2 - p.1 := by rw [← hlen]; exact List.length_pos_iff.2 hz
        have hne : c ≠ p.1 := by omega
        rcases hd with rfl | ⟨ad, rfl, hs, hu'⟩
        · simp at hz
        · refine ⟨ad.add (p.1 * P.cellsOf e), by simp [hne], by rw [add_block]; exact hs, fun j u hj => ?_⟩
          rw [List.getElem?_drop, List.getElem?_take] at hj
          split at hj
          · rw [add_add]; exact hu' _ u hj
          · cases hj
  · rw [run_sliceAt_slice _ _ _ _ _ _ (by rw [hel]; exact hu)]
    simp only [Instr.slice, Sem.run_bind, run_underlying hu, Result.andThen_ok, h3 w', sizeOf_run hd', Sem.run_pure, hlen]
end
end Go.VM
