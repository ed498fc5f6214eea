/-
  What one operation of a quiet region comes to. No program is named here.
-/
import Derived.Test.YtonibcnbcnibeaaVm7b
namespace Go.VM
open Go.RowKit

section
variable {P : Program} {S : Nat → Prop} {w : World}

theorem Res1.val {base : Nat} {v : Value} {y : V} (h : Res1 P S w base v y) (hu : y.uniq = true) : Rep S w v y := by
  cases y <;> first | exact h | exact h.elim | (simp [V.uniq] at hu; done)
theorem Res.val {base : Nat} {v : Value} {y : V} (h : Res P S w base v y) (hu : y.uniq = true) : Rep S w v y := by
  cases y with
  | t ys =>
    obtain ⟨us, rfl, hl, hh, _⟩ := h
    refine .t _ _ (by simpa using hl) fun j u x hu' hx => (hh j u x (by simpa using hu') hx).val ?_
    simp only [V.uniq] at hu
    exact (V.uniqs_iff ys).1 hu x (List.mem_of_getElem? hx)
  | _ => first | exact Res1.val (P := P) (base := base) h hu | (simp [V.uniq] at hu; done)

/-- A call, in the text's order. -/
theorem call_seq {o : Orc} (ho : SoundO P o) {s : Sem Next} {f : FuncId} {us : List Value} {zs : List V} {y : V} (hz : o f zs = some y) (hr : Reps (All w) w us zs) (hrun : s.run P w = .ok (.enter f us.toArray) w) :
    Outc P (s.run P w) fun u w1 => Below w.heap.size w w1 ∧ Rep (All w1) w1 u (frzt y) := by
  rw [hrun]
  refine ((ho f zs y hz).2 (All w) w us (fun _ h => h) hr).mono fun e w1 ⟨v, he, hb, S', hS1, hS2, hres⟩ => ⟨v, he, hb, hres.frzt (fun b hb' => (hS2 b hb').2) fun b _ hb' => hb'⟩
/-- A call whose result one value alone reads as, in any order. -/
theorem call_quiet {o : Orc} (ho : SoundO P o) {s : Sem Next} {f : FuncId} {us : List Value} {zs : List V} {y : V} (hz : o f zs = some y) (hu : y.uniq = true) (hS : ∀ b, S b → b < w.heap.size) (hr : Reps S w us zs) (hrun : ∀ w' : World, s.run P w' = .ok (.enter f us.toArray) w') :
    ∃ u, Rep S w u (frzt y) ∧ ∀ w', Below w.heap.size w w' → Oper.quietUpon P (Below w.heap.size w) w' u (s.run P w') := by
  have hcalls : ∀ w', Below w.heap.size w w' → Calls P f us.toArray w' fun e w3 => e = .returned y.toVal ∧ Below w.heap.size w w3 ∧ ∃ S' : Nat → Prop, Rep S' w3 y.toVal y := by
    intro w' hb
    refine ((ho f zs y hz).2 S w' us (fun b h => Nat.lt_of_lt_of_le (hS b h) hb.size) (hr.bel hS hb)).mono fun e w1 ⟨v, he, hb1, S', hS1, hS2, hres⟩ => ?_
    have hv := hres.val hu
    have := hv.val hu
    subst this
    exact ⟨he, hb.trans (hb1.mono hb.size), S', hv⟩
  refine ⟨y.toVal, ?_, fun w' hb => ?_⟩
  · obtain ⟨e, w3, fr, ⟨_, _, S', hrep⟩, _⟩ := hcalls w (Below.refl _ _) []
    rw [uniq_frzt y hu]
    exact hrep.of_flat (uniq_flat y hu)
  · rw [hrun]
    exact ⟨rfl, (hcalls w' hb).mono fun e w3 ⟨h1, h2, _⟩ => ⟨h1, h2⟩⟩

theorem buildSlice_fill {k : Nat} : ∀ (ps : List (Nat × Value)) (i : Nat) (cells : Array Value), (∀ (j : Nat) p, ps[j]? = some p → p.1 = i + j ∧ p.2.cells.size = k) → cells.size = (i + ps.length) * k →
    ∃ cells', Instr.fill (fun i => some (i * k, k)) cells ps = some cells' ∧ cells'.toList = cells.toList.take (i * k) ++ (ps.flatMap fun p => p.2.cells.toList)
  | [], i, cells, _, hs => ⟨cells, rfl, by simp at hs; simp [List.take_of_length_le, hs]⟩
  | (i', v) :: ps, i, cells, hp, hs => by
    obtain ⟨h1, h2⟩ := hp 0 (i', v) rfl
    simp only [Nat.add_zero] at h1 h2
    subst h1
    simp only [List.length_cons] at hs
    have hk : i' * k + k ≤ cells.size := by
      rw [hs, ← Nat.succ_mul]; exact Nat.mul_le_mul_right _ (by omega)
    have hset := foldl_set v.cells.toList (i' * k) cells (by simp; omega)
    have e : (v.cells.zipIdx.foldl (fun cs (c, j) => cs.setIfInBounds (i' * k + j) c) cells) = ((v.cells.toList.zipIdx 0).foldl (fun cs (p : Value × Nat) => cs.setIfInBounds (i' * k + p.2) p.1) cells) := by
      rw [← Array.foldl_toList, Array.toList_zipIdx]
    have hsz : (v.cells.zipIdx.foldl (fun cs (c, j) => cs.setIfInBounds (i' * k + j) c) cells).size = cells.size := by rw [e, foldl_size]
    obtain ⟨cells', hf, ht⟩ := buildSlice_fill ps (i' + 1) (v.cells.zipIdx.foldl (fun cs (c, j) => cs.setIfInBounds (i' * k + j) c) cells) (fun j p hj => by
      have := hp (j + 1) p (by simpa using hj)
      exact ⟨by omega, this.2⟩) (by rw [hsz, hs]; congr 1; omega)
    refine ⟨cells', ?_, ?_⟩
    · unfold Instr.fill
      simp only
      rw [if_neg (by simp [h2]; omega)]
      exact hf
    · rw [ht, e, hset, Nat.succ_mul, List.append_assoc, List.take_append, List.flatMap_cons]
      have hl : (cells.toList.take (i' * k)).length = i' * k := by simp; omega
      rw [hl, List.take_of_length_le (by rw [hl]; omega), show i' * k + k - i' * k = k from by omega, List.append_assoc]
      congr 1
      rw [List.take_append, List.take_of_length_le (by simp [h2]), show k - v.cells.toList.length = 0 from by simp [h2]]
      simp

theorem range_get {n : Nat} {l : List Nat} (h : l = List.range n) (j : Nat) (x : Nat) (hx : l[j]? = some x) : x = j ∧ j < n := by
  subst h
  have hj : j < n := by have := (List.getElem?_eq_some_iff.1 hx).1; simpa using this
  rw [List.getElem?_range hj] at hx
  cases hx; exact ⟨rfl, hj⟩

theorem run_askRow (e : TypeId) (cells : Array Value) (w' : World) : (newRow e cells).run P w' = .ok ⟨w'.heap.size, 0, none⟩ (w'.alloc (.cells cells e)) := rfl

/-- A slice literal makes a row. -/
theorem bsl_run {t e : TypeId} {k n : Nat} (hu : P.underlying t = some (.slice e)) (hk : (P.info? e).map (·.size) = some k) (h24 : n * k ≤ 16777216) (hz : (zeroCells P e).isSome = true) (parts : Array (Nat × Operand)) (hn : parts.toList.map (·.1) = List.range n)
    (ρ : Operand → Value) (xs : List V) (hr : Reps S w (parts.toList.map fun p => ρ p.2) xs) (hx : ∀ x ∈ xs, x.cells.length = k) :
    ∃ cells : List Value, Reps S w cells (flatc xs) ∧ cells.length = n * k ∧ xs.length = n ∧ ∀ w' : World, (Instr.buildSlice t n (parts.map fun (i, x) => (i, ρ x))).run P w' = .ok (.slice (some ⟨w'.heap.size, 0, none⟩) n n) (w'.alloc (.cells cells.toArray e)) := by
  have hlen : parts.toList.length = n := by have := congrArg List.length hn; simpa using this
  have hxl : xs.length = n := by rw [← hr.1]; simpa using hlen
  let ps : List (Nat × Value) := parts.toList.map fun p => (p.1, ρ p.2)
  have hps : ∀ (j : Nat) p, ps[j]? = some p → p.1 = 0 + j ∧ p.2.cells.size = k := by
    intro j p hj
    simp only [ps, List.getElem?_map] at hj
    cases hp : parts.toList[j]? with
    | none => rw [hp] at hj; cases hj
    | some p0 =>
      rw [hp] at hj
      simp only [Option.map_some, Option.some.injEq] at hj
      subst hj
      have h1 := range_get hn j p0.1 (by rw [List.getElem?_map, hp]; rfl)
      have hxj : j < xs.length := by rw [hxl]; exact h1.2
      have h2 := hr.2 j (ρ p0.2) xs[j] (by rw [List.getElem?_map, hp]; rfl) (List.getElem?_eq_getElem hxj)
      have h3 := h2.cells.1
      rw [hx _ (List.getElem_mem hxj)] at h3
      exact ⟨by simpa using h1.1, by simpa using h3⟩
  have hflat : Reps S w (ps.flatMap fun p => p.2.cells.toList) (flatc xs) := by
    have key : ∀ (l : List Value) (ys : List V), Reps S w l ys → Reps S w (l.flatMap fun v => v.cells.toList) (flatc ys) := by
      intro l
      induction l with
      | nil =>
        intro ys h
        have : ys = [] := List.eq_nil_of_length_eq_zero (by simpa using h.1.symm)
        subst this; exact Reps.nil
      | cons v l ih =>
        intro ys h
        cases ys with
        | nil => exact absurd h.1 (by simp)
        | cons y ys => rw [List.flatMap_cons, flatc_cons]; exact h.head.cells.append (ih ys h.tail)
    have := key _ _ hr
    simpa [ps, List.flatMap_map] using this
  have hfl : (ps.flatMap fun p => p.2.cells.toList).length = n * k := by rw [hflat.1, flatc_length hx, hxl]
  refine ⟨_, hflat, hfl, hxl, fun w' => ?_⟩
  obtain ⟨i0, hi0, hk0⟩ : ∃ i0, P.info? e = some i0 ∧ i0.size = k := by
    cases h : P.info? e with
    | none => rw [h] at hk; cases hk
    | some i0 => rw [h] at hk; exact ⟨i0, rfl, by simpa using hk⟩
  obtain ⟨zv, hzv⟩ : ∃ zv, i0.zero = some zv := by
    unfold zeroCells at hz
    rw [hi0] at hz
    simp only [Option.bind_some] at hz
    cases h : i0.zero with
    | none => rw [h] at hz; cases hz
    | some zv => exact ⟨zv, rfl⟩
  have hfill := fun (cells : Array Value) (hc : cells.size = n * k) => buildSlice_fill (k := k) ps 0 cells hps (by simp [ps, hlen, hc])
  have e1 : (parts.map fun (i, x) => (i, ρ x)).toList = ps := by simp [ps]
  have hsz : (sizeOf e).run P w' = .ok k w' := by rw [run_sizeOf w' hi0]; simp [Program.cellsOf, hi0, hk0]
  have hzr : (zeroValue e).run P w' = .ok zv w' := by simp [zeroValue, typeInfo, hi0, hzv]
  by_cases h0 : n * k = 0
  · obtain ⟨cells', hf, ht⟩ := hfill ((Array.range (n * k)).map fun i => (#[] : Array Value)[i % (#[] : Array Value).size]!) (by simp)
    have : cells' = (ps.flatMap fun p => p.2.cells.toList).toArray := by apply Array.toList_inj.1; rw [ht]; simp
    subst this
    simp only [Instr.buildSlice, Sem.run_bind, run_underlying hu, Result.andThen_ok, hsz, e1]
    rw [if_neg (by omega : ¬ (n * k > 2 ^ 24)), if_pos h0]
    simp only [Sem.run_pure, Sem.run_bind, Result.andThen_ok, hf, run_askRow]
  · obtain ⟨cells', hf, ht⟩ := hfill ((Array.range (n * k)).map fun i => zv.cells[i % zv.cells.size]!) (by simp)
    have : cells' = (ps.flatMap fun p => p.2.cells.toList).toArray := by apply Array.toList_inj.1; rw [ht]; simp
    subst this
    simp only [Instr.buildSlice, Sem.run_bind, run_underlying hu, Result.andThen_ok, hsz, e1]
    rw [if_neg (by omega : ¬ (n * k > 2 ^ 24)), if_neg h0]
    simp only [Sem.run_pure, Sem.run_bind, Result.andThen_ok, hzr, hf, run_askRow]
end
end Go.VM
