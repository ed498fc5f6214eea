/-
  Struct values, slice literals, lengths, max and min, calls. No program is named here.
-/
import Derived.Test.YtonibcnbcnibeaaVm6c
namespace Go.VM
open Go.RowKit

section
variable {P : Program} {S : Nat → Prop} {w : World}

theorem foldl_get : ∀ (l : List Value) (k off : Nat) (cs : Array Value), off + k + l.length ≤ cs.size → ∀ j : Nat,
    ((l.zipIdx k).foldl (fun cs (p : Value × Nat) => cs.setIfInBounds (off + p.2) p.1) cs)[j]? = if off + k ≤ j ∧ j < off + k + l.length then l[j - (off + k)]? else cs[j]?
  | [], k, off, cs, _, j => by simp; omega
  | v :: l, k, off, cs, h, j => by
    simp only [List.zipIdx_cons, List.foldl_cons]
    simp only [List.length_cons] at h
    rw [foldl_get l (k + 1) off _ (by simp; omega) j, Array.getElem?_setIfInBounds]
    by_cases h1 : j = off + k
    · subst h1
      rw [if_neg (by omega), if_pos rfl, if_pos (show off + k < cs.size by omega), if_pos (show off + k ≤ off + k ∧ off + k < off + k + (v :: l).length from ⟨by omega, by rw [List.length_cons]; omega⟩)]
      simp
    · by_cases h2 : off + (k + 1) ≤ j ∧ j < off + (k + 1) + l.length
      · rw [if_pos h2, if_pos ⟨by omega, by simp; omega⟩]
        obtain ⟨m, rfl⟩ : ∃ m, j = off + k + 1 + m := ⟨j - (off + k + 1), by omega⟩
        rw [show off + k + 1 + m - (off + (k + 1)) = m from by omega, show off + k + 1 + m - (off + k) = m + 1 from by omega]
        simp
      · rw [if_neg h2, if_neg (fun e => h1 e.symm), if_neg (by simp; omega)]
theorem foldl_size : ∀ (l : List Value) (k off : Nat) (cs : Array Value), ((l.zipIdx k).foldl (fun cs (p : Value × Nat) => cs.setIfInBounds (off + p.2) p.1) cs).size = cs.size
  | [], _, _, _ => rfl
  | v :: l, k, off, cs => by simp only [List.zipIdx_cons, List.foldl_cons]; rw [foldl_size l]; simp
theorem foldl_set (l : List Value) (off : Nat) (cs : Array Value) (h : off + l.length ≤ cs.size) :
    ((l.zipIdx 0).foldl (fun cs (p : Value × Nat) => cs.setIfInBounds (off + p.2) p.1) cs).toList = cs.toList.take off ++ l ++ cs.toList.drop (off + l.length) := by
  apply List.ext_getElem?
  intro j
  rw [Array.getElem?_toList, foldl_get l 0 off cs (by simpa using h) j]
  simp only [Nat.add_zero]
  by_cases h1 : j < off
  · rw [if_neg (by omega), List.append_assoc, List.getElem?_append_left (by simp; omega), List.getElem?_take, if_pos h1, Array.getElem?_toList]
  · have hl : (cs.toList.take off).length = off := by simp; omega
    rw [List.append_assoc, List.getElem?_append_right (by omega), hl]
    by_cases h2 : j < off + l.length
    · rw [if_pos ⟨by omega, h2⟩, List.getElem?_append_left (by omega)]
    · rw [if_neg (by omega), List.getElem?_append_right (by omega), List.getElem?_drop, Array.getElem?_toList]
      congr 1; omega

theorem Reps.splice {us vs : List Value} {cs xs : List V} (h : Reps S w us cs) (h' : Reps S w vs xs) (off : Nat) : Reps S w (us.take off ++ vs ++ us.drop (off + vs.length)) (splice cs off xs) := by
  unfold VM.splice
  rw [h'.1]
  exact ((h.take off).append h').append (h.drop _)
theorem splice_mem {cs xs : List V} {off : Nat} (h : ∀ x ∈ cs, x.cell = true) (h' : ∀ x ∈ xs, x.cell = true) : ∀ x ∈ splice cs off xs, x.cell = true := by
  unfold splice
  intro x hx
  simp only [List.mem_append] at hx
  rcases hx with (hx | hx) | hx
  · exact h x (List.mem_of_mem_take hx)
  · exact h' x hx
  · exact h x (List.mem_of_mem_drop hx)
theorem splice_length {cs xs : List V} {off : Nat} (h : off + xs.length ≤ cs.length) : (splice cs off xs).length = cs.length := by
  simp [splice]; omega

theorem fill_run {place : Nat → Option (Nat × Nat)} : ∀ (ps : List (Nat × Value)) (pl : List (Nat × Nat)) (xs : List V) (cells : Array Value) (z r : List V),
    (∀ (j : Nat) p q, ps[j]? = some p → pl[j]? = some q → place p.1 = some q) → Reps S w (ps.map (·.2)) xs → Reps S w cells.toList z → (∀ x ∈ z, x.cell = true) → bldV z pl xs = some r →
    ∃ cells', Instr.fill place cells ps = some cells' ∧ Reps S w cells'.toList r ∧ ∀ x ∈ r, x.cell = true
  | [], pl, xs, cells, z, r, _, hx, hz, hc, hb => by
    have : xs = [] := List.eq_nil_of_length_eq_zero (by simpa using hx.1.symm)
    subst this
    cases pl with
    | nil => simp only [bldV, Option.some.injEq] at hb; subst hb; exact ⟨cells, rfl, hz, hc⟩
    | cons => simp [bldV] at hb
  | (i, v) :: ps, pl, xs, cells, z, r, hp, hx, hz, hc, hb => by
    match xs, pl, hx, hp, hb with
    | [], _, hx, _, _ => exact absurd hx.1 (by simp)
    | x :: xs, [], _, _, hb => simp [bldV] at hb
    | x :: xs, (off, sz) :: pl, hx, hp, hb =>
      simp only [bldV] at hb
      split at hb
      · rename_i hcond
        have hv := (hx.head).cells
        have h1 := hp 0 (i, v) (off, sz) rfl rfl
        have hsz : v.cells.size = sz := by rw [← Array.length_toList, hv.1]; exact hcond.1
        have hzl : cells.size = z.length := by rw [← Array.length_toList]; exact hz.1
        have hset := foldl_set v.cells.toList off cells (by simp; omega)
        obtain ⟨cells', hf, h2, h3⟩ := fill_run ps pl xs (v.cells.zipIdx.foldl (fun cs (c, j) => cs.setIfInBounds (off + j) c) cells) (splice z off x.cells) r
          (fun j p q h h' => hp (j + 1) p q (by simpa using h) (by simpa using h')) (hx.tail) (by
            have e : (v.cells.zipIdx.foldl (fun cs (c, j) => cs.setIfInBounds (off + j) c) cells) = ((v.cells.toList.zipIdx 0).foldl (fun cs (p : Value × Nat) => cs.setIfInBounds (off + p.2) p.1) cells) := by
              rw [← Array.foldl_toList, Array.toList_zipIdx]
            rw [e, hset]
            simpa using hz.splice hv off) (splice_mem hc fun x hx => List.all_eq_true.1 hcond.2.2 x hx) hb
        refine ⟨cells', ?_, h2, h3⟩
        unfold Instr.fill
        simp only [h1]
        rw [if_neg (by simp [hsz]; omega)]
        exact hf
      · cases hb

theorem ofCell_rep {v : Value} {x : V} (h : ofCell v = some x) : Rep S w v x ∧ x.cell = true := by
  unfold ofCell at h
  split at h <;> first | (cases h; first | exact ⟨.b _, rfl⟩ | exact ⟨.i _ _, rfl⟩ | exact ⟨.s _, rfl⟩ | exact ⟨.l0 _ _, rfl⟩ | exact ⟨.nf, rfl⟩ | exact ⟨.np, rfl⟩ | exact ⟨.f _ #[] #[] [] [] rfl rfl (by simp) (by simp), rfl⟩) | cases h
theorem ofCells_rep : ∀ {l : List Value} {xs : List V}, ofCells l = some xs → Reps S w l xs ∧ ∀ x ∈ xs, x.cell = true
  | [], xs, h => by simp only [ofCells, Option.some.injEq] at h; subst h; exact ⟨Reps.nil, by simp⟩
  | v :: l, xs, h => by
    simp only [ofCells] at h
    cases h1 : ofCell v with
    | none => rw [h1] at h; cases h
    | some x =>
      rw [h1] at h
      simp only [Option.bind_some] at h
      cases h2 : ofCells l with
      | none => rw [h2] at h; cases h
      | some r =>
        rw [h2] at h
        simp only [Option.bind_some, Option.some.injEq] at h
        subst h
        obtain ⟨r1, c1⟩ := ofCell_rep (S := S) (w := w) h1
        obtain ⟨r2, c2⟩ := ofCells_rep h2
        exact ⟨Reps.cons r1 r2, by simpa [c1] using c2⟩
theorem ofConst_rep {v : Value} {x : V} (h : ofConst v = some x) : Rep S w v x := by
  unfold ofConst at h
  split at h
  · rename_i cs
    cases h1 : ofCells cs.toList with
    | none => rw [h1] at h; cases h
    | some xs =>
      rw [h1] at h
      simp only [Option.map_some, Option.some.injEq] at h
      subst h
      obtain ⟨r, c⟩ := ofCells_rep (S := S) (w := w) h1
      have := Rep.mk_agg c r
      simpa using this
  · exact (ofCell_rep h).1

theorem placed_spec {qs : List (Nat × Nat)} : ∀ {ps : List (Nat × Operand)} {l : List (Nat × Nat)}, placed qs ps = some l → l.length = ps.length ∧ ∀ (j : Nat) p q, ps[j]? = some p → l[j]? = some q → qs[p.1]? = some q
  | [], l, h => by simp only [placed, Option.some.injEq] at h; subst h; exact ⟨rfl, by simp⟩
  | p :: r, l, h => by
    simp only [placed] at h
    cases h1 : qs[p.1]? with
    | none => rw [h1] at h; cases h
    | some q =>
      rw [h1] at h
      simp only [Option.bind_some] at h
      cases h2 : placed qs r with
      | none => rw [h2] at h; cases h
      | some l' =>
        rw [h2] at h
        simp only [Option.bind_some, Option.some.injEq] at h
        subst h
        obtain ⟨h3, h4⟩ := placed_spec h2
        refine ⟨by simp [h3], fun j p' q' hj hj' => ?_⟩
        cases j with
        | zero => simp at hj hj'; subst hj; subst hj'; exact h1
        | succ j => exact h4 j p' q' (by simpa using hj) (by simpa using hj')

theorem bld_run {t : TypeId} {fs : Array Field} (hu : P.underlying t = some (.struct fs)) {z : List V} (hz : zeroCells P t = some z) {qs : List (Nat × Nat)} (hq : places P fs = some qs)
    (ρ : Operand → Value) (parts : Array (Nat × Operand)) {pl : List (Nat × Nat)} (hp : placed qs parts.toList = some pl) (xs r : List V)
    (hr : Reps S w (parts.toList.map fun p => ρ p.2) xs) (hb : bldV z pl xs = some r) :
    ∃ u, Rep S w u (.a r) ∧ ∀ w' : World, (Instr.build t (parts.map fun (i, x) => (i, ρ x))).run P w' = .ok u w' := by
  unfold zeroCells at hz
  cases hi : P.info? t with
  | none => rw [hi] at hz; cases hz
  | some it =>
    rw [hi] at hz
    simp only [Option.bind_some] at hz
    cases hzz : it.zero with
    | none => rw [hzz] at hz; cases hz
    | some zv =>
      rw [hzz] at hz
      simp only [Option.bind_some] at hz
      obtain ⟨r1, c1⟩ := ofCells_rep (S := S) (w := w) hz
      obtain ⟨_, hps⟩ := placed_spec hp
      obtain ⟨cells', hf, h2, h3⟩ := fill_run (S := S) (w := w) (place := (qs.toArray[·]?)) (parts.toList.map fun p => (p.1, ρ p.2)) pl xs zv.cells z r
        (fun j p q hj hj' => by
          rw [List.getElem?_map] at hj
          cases ho : parts.toList[j]? with
          | none => rw [ho] at hj; cases hj
          | some p0 =>
            rw [ho] at hj
            simp only [Option.map_some, Option.some.injEq] at hj
            subst hj
            have := hps j p0 q ho hj'
            simpa using this)
        (by simpa [List.map_map, Function.comp_def] using hr) r1 c1 hb
      refine ⟨.agg cells', ?_, fun w' => ?_⟩
      · have := Rep.mk_agg h3 h2; simpa using this
      · refine run_build w' t _ cells' ?_
        unfold Program.built
        unfold places at hq
        simp only [hi, hu, hzz, hq]
        have e : (parts.map fun (i, x) => (i, ρ x)).toList = parts.toList.map fun p => (p.1, ρ p.2) := by simp
        rw [e]
        exact hf

theorem max_run : ∀ (r : List Value) (v : Value) (xs : List V) (y : V), Reps S w (v :: r) xs → maxV xs = some y → ∃ u, Rep S w u y ∧ ∀ w' : World, (r.foldlM Builtin.max2 v).run P w' = .ok u w'
  | [], v, xs, y, hr, h => by
    match xs, hr with
    | [], hr => exact absurd hr.1 (by simp)
    | [x], hr =>
      cases x <;> simp only [maxV, reduceCtorEq, Option.some.injEq] at h
      subst h
      exact ⟨v, hr.head, fun w' => by simp⟩
    | _ :: _ :: _, hr => exact absurd hr.1 (by simp)
  | u :: r, v, xs, y, hr, h => by
    match xs, hr with
    | [], hr => exact absurd hr.1 (by simp)
    | [x], hr => exact absurd hr.1 (by simp)
    | x :: x' :: xs, hr =>
      have h1 := hr.head
      have h2 := hr.tail.head
      have h3 := hr.tail.tail
      cases x with
      | i k a =>
        cases x' with
        | i k' b =>
          rw [maxV] at h
          split at h
          · cases h1; cases h2
            obtain ⟨u', hu', hrun⟩ := max_run r (.int k (if b > a then b else a)) (.i k (if b > a then b else a) :: xs) y (Reps.cons (.i _ _) h3) h
            exact ⟨u', hu', fun w' => by simp only [List.foldlM_cons, Sem.run_bind, Builtin.max2, Sem.run_pure, Result.andThen_ok]; exact hrun w'⟩
          · cases h
        | _ => simp [maxV] at h
      | _ => simp [maxV] at h
theorem min_run : ∀ (r : List Value) (v : Value) (xs : List V) (y : V), Reps S w (v :: r) xs → minV xs = some y → ∃ u, Rep S w u y ∧ ∀ w' : World, (r.foldlM Builtin.min2 v).run P w' = .ok u w'
  | [], v, xs, y, hr, h => by
    match xs, hr with
    | [], hr => exact absurd hr.1 (by simp)
    | [x], hr =>
      cases x <;> simp only [minV, reduceCtorEq, Option.some.injEq] at h
      subst h
      exact ⟨v, hr.head, fun w' => by simp⟩
    | _ :: _ :: _, hr => exact absurd hr.1 (by simp)
  | u :: r, v, xs, y, hr, h => by
    match xs, hr with
    | [], hr => exact absurd hr.1 (by simp)
    | [x], hr => exact absurd hr.1 (by simp)
    | x :: x' :: xs, hr =>
      have h1 := hr.head
      have h2 := hr.tail.head
      have h3 := hr.tail.tail
      cases x with
      | i k a =>
        cases x' with
        | i k' b =>
          rw [minV] at h
          split at h
          · cases h1; cases h2
            obtain ⟨u', hu', hrun⟩ := min_run r (.int k (if b < a then b else a)) (.i k (if b < a then b else a) :: xs) y (Reps.cons (.i _ _) h3) h
            exact ⟨u', hu', fun w' => by simp only [List.foldlM_cons, Sem.run_bind, Builtin.min2, Sem.run_pure, Result.andThen_ok]; exact hrun w'⟩
          · cases h
        | _ => simp [minV] at h
      | _ => simp [minV] at h

theorem len_run {t e : TypeId} (hu : P.underlying t = some (.slice e)) (v : Value) (es : List V) (h : Rep S w v (.l es)) (ty : TypeId) :
    ∃ u, Rep S w u (.i .i64 es.length) ∧ ∀ w' : World, (Builtin.len_ #[t] ty #[v]).run P w' = .ok u w' := by
  obtain ⟨ad, c, k, vs, rfl, _⟩ := h.slice
  exact ⟨_, .i _ _, fun w' => by simp [Builtin.len_, run_underlying hu, goInt]⟩
theorem slen_run {t : TypeId} (hu : P.underlying t = some .string) (v : Value) (s : List UInt8) (h : Rep S w v (.s s)) (ty : TypeId) :
    ∃ u, Rep S w u (.i .i64 s.length) ∧ ∀ w' : World, (Builtin.len_ #[t] ty #[v]).run P w' = .ok u w' := by
  cases h
  exact ⟨_, .i _ _, fun w' => by simp [Builtin.len_, run_underlying hu, goInt]⟩
end
end Go.VM
