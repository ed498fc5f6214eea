/-
  Steps: slice literals, variables, parts of a call's results. No program is named here.
-/
import Derived.Test.YtonibcnbcnibeaaVm9e
namespace Go.VM
open Go.RowKit

section
variable {P : Program} {nt : Nat} {keep : List Nat} {S : Nat → Prop} {base : Nat} {w0 : World} {env env' : Env} {a : Act} {w : World} {o : Orc}

/-- A slice literal of the call's own. -/
theorem step_bsl (hF : FI P nt keep S base w0 env a w) {d : Nat} (hk : d ∈ keep) (hd : d < nt) {t e : TypeId} {k n : Nat} {ps : Array (Nat × Operand)} {ss : List Src} {oper : Oper} (hop : oper.op = .buildSlice t n ps)
    (hkc : elemCells P t = some k) (hel : elemTy P t = some e) (hc : n * k ≤ 16777216 ∧ 0 < k ∧ ps.toList.map (·.1) = List.range n ∧ (zeroCells P (P.elem t)).isSome = true) (hs : srcs (ps.toList.map (·.2)) = some ss)
    (hst : stepS o env (.bsl d e k ss) = some env') : ∃ u w1, (execOp a.eval oper).run P w = .ok (.value u) w1 ∧ FI P nt keep S base w0 env' (a.put (some d) u) w1 := by
  simp only [stepS] at hst
  cases hl : lookSs env ss with
  | none => rw [hl] at hst; cases hst
  | some vs =>
    rw [hl] at hst
    simp only [Option.bind_some] at hst
    split at hst
    · rename_i hall
      cases hst
      have hall1 : ∀ x ∈ vs, x.cells.length = k := fun x hx => by
        have := List.all_eq_true.1 hall x hx
        simp only [Bool.and_eq_true, beq_iff_eq] at this
        exact this.1
      have hall2 : ∀ x ∈ flatc vs, x.cell = true := fun x hx => by
        obtain ⟨e, he, hx⟩ := List.mem_flatMap.1 hx
        have := List.all_eq_true.1 hall e he
        simp only [Bool.and_eq_true, beq_iff_eq] at this
        exact List.all_eq_true.1 this.2 x hx
      have hu : P.underlying t = some (.slice e) := by
        unfold elemTy at hel
        split at hel
        · rename_i e' hu; cases hel; exact hu
        · cases hel
      have hk' : (P.info? e).map (·.size) = some k := by simpa [elemCells, hu] using hkc
      have hke : P.cellsOf e = k := by
        unfold Program.cellsOf
        cases h : P.info? e with
        | none => rw [h] at hk'; cases hk'
        | some i => rw [h] at hk'; simpa using hk'
      have hele : P.elem t = e := by simp [Program.elem, hu]
      rw [hele] at hc
      have hF' := hF.freeze ss
      obtain ⟨Im0, _, _, hE0⟩ := hF'.ents
      have hr0 := srcs_loose hE0 hs (loose_freeze ss env).2 (by rw [lookSs_freeze]; exact hl)
      obtain ⟨cells, hcr0, hcl, hn, hrun⟩ := bsl_run (w := w) hu hk' hc.1 hc.2.2.2 ps hc.2.2.1 a.eval vs (by simpa [List.map_map, Function.comp_def] using hr0) hall1
      have hx : (execOp a.eval oper).run P w = .ok (.value (.slice (some ⟨w.heap.size, 0, none⟩) n n)) (w.alloc (.cells cells.toArray e)) := by
        have := hrun w
        simp only [execOp, hop, Sem.run_bind, this, Result.andThen_ok, Sem.run_pure]
      have hbw : Below w.heap.size w (w.alloc (.cells cells.toArray e)) := (Below.refl _ _).alloc (Nat.le_refl _) _
      refine ⟨_, _, hx, hF'.put_own hk hd hbw rfl (fun g hg => by simp only [blkOf, Option.some.injEq] at hg; omega) fun Im h1 h2 hE => ?_⟩
      have hr := srcs_loose hE hs (loose_freeze ss env).2 (by rw [lookSs_freeze]; exact hl)
      obtain ⟨cells', hcr, _, _, hrun'⟩ := bsl_run (w := w) hu hk' hc.1 hc.2.2.2 ps hc.2.2.1 a.eval vs (by simpa [List.map_map, Function.comp_def] using hr) hall1
      have he := (hrun w).symm.trans (hrun' w)
      have hce : cells = cells' := by
        simp only [Result.ok.injEq] at he
        have h1 := heap_alloc_new w (.cells cells.toArray e)
        rw [he.2] at h1
        have h2 := heap_alloc_new w (.cells cells'.toArray e)
        rw [h2] at h1
        simp only [Option.some.injEq, Obj.cells.injEq, and_true] at h1
        simpa using h1.symm
      subst hce
      refine ⟨Im, fun _ h => h, fun b h => ⟨.inl h, Nat.lt_of_lt_of_le (h2 b h).2 hbw.size⟩, ⟨cells, ?_, fun x hx => (hall1 x hx).trans hke.symm, hall2, hcr.move (fun _ h => h) fun p hp => World.cell?_alloc_lt w _ p (h2 _ hp).2⟩, fun g hg hI => ?_⟩
      · rw [hn]
        have hmul : n ≤ n * k := Nat.le_mul_of_pos_right n hc.2.1
        have := World.ownsRow_lit (base := base) (e := e) (size := P.cellsOf e) w cells.toArray n hF.bsz (by simp only [maxLen]; omega) (by simp [hcl, hke])
        simpa using this
      · simp only [blkOf, Option.some.injEq] at hg
        have := (h2 g hI).2
        omega
    · cases hst

theorem alloc_box {Im : Nat → Prop} (hIm : ∀ b, Im b → b < w.heap.size) (hbs : base ≤ w.heap.size) {vs : List Value} {cs : List V} (hr : Reps Im w vs cs) (hc : ∀ x ∈ cs, x.cell = true) (ty : TypeId) : Res1 P Im (w.alloc (.cells vs.toArray ty)) base (.pointer (some ⟨w.heap.size, 0, none⟩)) (.bx cs) := by
  refine ⟨⟨w.heap.size, vs, ty, rfl, hbs, heap_alloc_new w _, hc, hr.move (fun _ h => h) fun p hp => World.cell?_alloc_lt w _ p (hIm _ hp)⟩, fun g hg hI => ?_⟩
  simp only [blkOf, Option.some.injEq] at hg
  have := hIm g hI
  omega

/-- A variable that holds a value. -/
theorem step_box (hF : FI P nt keep S base w0 env a w) {d : Nat} (hk : d ∈ keep) (hd : d < nt) {t : TypeId} {x : Operand} {s : Src} {oper : Oper} (hop : oper.op = .box t x) (hs : src x = some s)
    (hst : stepS o env (.box d s) = some env') : ∃ u w1, (execOp a.eval oper).run P w = .ok (.value u) w1 ∧ FI P nt keep S base w0 env' (a.put (some d) u) w1 := by
  simp only [stepS] at hst
  cases hl : lookS env s with
  | none => rw [hl] at hst; cases hst
  | some v =>
    rw [hl] at hst
    simp only [Option.bind_some] at hst
    split at hst
    · rename_i hall
      cases hst
      have hF' := hF.freeze [s]
      have hbw : Below w.heap.size w (w.alloc (.cells (a.eval x).cells t)) := (Below.refl _ _).alloc (Nat.le_refl _) _
      refine ⟨_, _, (by simp [execOp, hop, Instr.box, newVar, run_askRow] : (execOp a.eval oper).run P w = .ok (.value (.pointer (some ⟨w.heap.size, 0, none⟩))) (w.alloc (.cells (a.eval x).cells t))), hF'.put_own hk hd hbw rfl (fun g hg => by simp only [blkOf, Option.some.injEq] at hg; omega) fun Im h1 h2 hE => ?_⟩
      have hl' : lookS (freeze env [s]) s = some v := by
        have h := lookSs_freeze [s] env [s]
        simp only [lookSs, hl, Option.bind_some] at h
        cases h' : lookS (freeze env [s]) s with
        | none => rw [h'] at h; cases h
        | some v' => rw [h'] at h; simp only [Option.bind_some, Option.some.injEq, List.cons.injEq, and_true] at h; rw [h]
      have hr := src_loose hE hs ((loose_freeze [s] env).2 s (List.mem_cons_self ..)) hl'
      have := alloc_box (P := P) (base := base) (fun b h => (h2 b h).2) hF.bsz hr.cells (fun x hx => List.all_eq_true.1 hall x hx) t
      exact ⟨Im, fun _ h => h, fun b h => ⟨.inl h, Nat.lt_of_lt_of_le (h2 b h).2 hbw.size⟩, by simpa using this⟩
    · cases hst

/-- A variable of zeros. -/
theorem step_alo (hF : FI P nt keep S base w0 env a w) {d : Nat} (hk : d ∈ keep) (hd : d < nt) {t : TypeId} {z : List V} {oper : Oper} (hop : oper.op = .alloc t) (hz : zeroCells P t = some z)
    (hst : stepS o env (.alo d z) = some env') : ∃ u w1, (execOp a.eval oper).run P w = .ok (.value u) w1 ∧ FI P nt keep S base w0 env' (a.put (some d) u) w1 := by
  simp only [stepS, Option.some.injEq] at hst
  subst hst
  unfold zeroCells at hz
  cases hi : P.info? t with
  | none => rw [hi] at hz; cases hz
  | some it =>
    rw [hi] at hz
    simp only [Option.bind_some] at hz
    cases hzz : it.zero with
    | none => rw [hzz] at hz; cases hz
    | some zv =>
      rw [hzz] at hz
      simp only [Option.bind_some] at hz
      have hbw : Below w.heap.size w (w.alloc (.cells zv.cells t)) := (Below.refl _ _).alloc (Nat.le_refl _) _
      have hzr : (zeroValue t).run P w = .ok zv w := by simp [zeroValue, typeInfo, hi, hzz]
      refine ⟨_, _, (by simp [execOp, hop, Instr.alloc, hzr, newVar, run_askRow] : (execOp a.eval oper).run P w = .ok (.value (.pointer (some ⟨w.heap.size, 0, none⟩))) (w.alloc (.cells zv.cells t))), hF.put_own hk hd hbw rfl (fun g hg => by simp only [blkOf, Option.some.injEq] at hg; omega) fun Im h1 h2 hE => ?_⟩
      obtain ⟨r1, c1⟩ := ofCells_rep (S := Im) (w := w) hz
      have := alloc_box (P := P) (base := base) (fun b h => (h2 b h).2) hF.bsz r1 c1 t
      exact ⟨Im, fun _ h => h, fun b h => ⟨.inl h, Nat.lt_of_lt_of_le (h2 b h).2 hbw.size⟩, by simpa using this⟩

/-- What an entry reads is in blocks that have not turned. -/
theorem Res1.keepW {Im : Nat → Prop} {w' : World} {v : Value} {x : V} (h : Res1 P Im w base v x) (hI : ∀ b, Im b → w'.heap[b]? = w.heap[b]?) (hN : x.isOwn = true → ∀ g, blkOf v = some g → w'.heap[g]? = w.heap[g]?) : Res1 P Im w' base v x := by
  cases x with
  | ow e es =>
    obtain ⟨⟨vs, ⟨hl, hv⟩, hk, h1, hr⟩, hn⟩ := h
    refine ⟨⟨vs, ⟨hl, ?_⟩, hk, h1, hr.move (fun _ h => h) fun p hp => World.cell?_of_block (hI _ hp)⟩, hn⟩
    rcases hv with h | ⟨g, cap, cur, rfl, h2, hh, h3⟩
    · exact .inl h
    · exact .inr ⟨g, cap, cur, rfl, h2, (hN rfl g rfl).trans hh, h3⟩
  | bx cs =>
    obtain ⟨⟨g, vs, ty, rfl, h2, hh, h3, hr⟩, hn⟩ := h
    exact ⟨⟨g, vs, ty, rfl, h2, (hN rfl g rfl).trans hh, h3, hr.move (fun _ h => h) fun p hp => World.cell?_of_block (hI _ hp)⟩, hn⟩
  | al n => exact h
  | pe a b c d => exact h
  | pb a b c => exact h
  | t ys => exact h
  | ud => exact h
  | _ => exact Rep.keep h fun p hp => World.cell?_of_block (hI _ hp)

/-- What a slot holds turns, in its own block alone. -/
theorem Ents.upd {Im : Nat → Prop} {T : Tm} {w' : World} (h : Ents P Im w base env T) {n : Nat} {x x' : V} {u : Value} (hx : get n env = some x) (hu : T n = some u) (hn' : x'.names = none)
    (hI : ∀ b, Im b → w'.heap[b]? = w.heap[b]?) (hO : ∀ m c g, m ≠ n → Owns env T m c g → w'.heap[g]? = w.heap[g]?)
    (hpe : ∀ es', frz x' = .l es' → ∃ es, frz x = .l es ∧ ∀ k, (∀ e ∈ es, e.cells.length = k) → ∀ e ∈ es', e.cells.length = k)
    (hent : Ent P Im w' base (VM.put n x' env) T u x') (hown : ∀ c g, Owns (VM.put n x' env) T n c g → Owns env T n c g) : Ents P Im w' base (VM.put n x' env) T := by
  have hget : ∀ m, get m (VM.put n x' env) = if m = n then some x' else get m env := fun m => get_put n m x' env
  have howns : ∀ m c g, Owns (VM.put n x' env) T m c g → Owns env T m c g := by
    intro m c g ho
    by_cases hm : m = n
    · subst hm; exact hown c g ho
    · cases c with
      | none => obtain ⟨y, v, hy, h1⟩ := ho; rw [hget, if_neg hm] at hy; exact ⟨y, v, hy, h1⟩
      | some j => obtain ⟨ys, us, y, v, hy, h1⟩ := ho; rw [hget, if_neg hm] at hy; exact ⟨ys, us, y, v, hy, h1⟩
  refine ⟨fun m y hy => ?_, fun m y k hy hk => ?_, fun m c m' c' g h1 h2 => h.apart m c m' c' g (howns _ _ _ h1) (howns _ _ _ h2)⟩
  · rw [hget] at hy
    by_cases hm : m = n
    · rw [if_pos hm] at hy
      cases hy
      exact ⟨u, by rw [hm]; exact hu, hent⟩
    · rw [if_neg hm] at hy
      obtain ⟨v, hv, he⟩ := h.ent m y hy
      refine ⟨v, hv, ?_⟩
      by_cases hsm : y.smp = true
      · rw [Ent.res1 hsm] at he ⊢
        exact he.keepW hI fun ho g hg => hO m none g hm ⟨_, v, hy, ho, hv, hg⟩
      cases y with
      | pe k i off sz =>
        obtain ⟨ad, l, c, kk, h1, h2, h3⟩ := he
        refine ⟨ad, l, c, kk, h1, h2, fun z es hz hfz => ?_⟩
        rw [hget] at hz
        by_cases hkn : k = n
        · rw [if_pos hkn] at hz
          cases hz
          obtain ⟨es0, hf0, hall⟩ := hpe es hfz
          exact hall kk (h3 x es0 (by rw [hkn]; exact hx) hf0)
        · rw [if_neg hkn] at hz; exact h3 z es hz hfz
      | al k => exact he
      | pb k off sz => exact he
      | ud => exact he
      | t ys =>
        obtain ⟨us, hus, hl, hh⟩ := he
        refine ⟨us, hus, hl, fun j v' y hj hy' => ?_⟩
        rcases hh j v' y hj hy' with h1 | h1
        · exact .inl h1
        · exact .inr (h1.keepW hI fun ho g hg => hO m (some j) g hm ⟨ys, us, y, v', hy, by rw [hv, hus], hy', ho, hj, hg⟩)
      | _ => exact absurd rfl hsm
  · rw [hget] at hy
    by_cases hm : m = n
    · rw [if_pos hm] at hy; cases hy; rw [hn'] at hk; cases hk
    · rw [if_neg hm] at hy
      obtain ⟨z, hz, hzn⟩ := h.closed m y k hy hk
      by_cases hkn : k = n
      · exact ⟨x', by rw [hget, if_pos hkn], hn'⟩
      · exact ⟨z, by rw [hget, if_neg hkn]; exact hz, hzn⟩

/-- One of a call's results. -/
theorem step_ext (hF : FI P nt keep S base w0 env a w) {d : Nat} (hk : d ∈ keep) (hd : d < nt) {n i : Nat} {oper : Oper} (hop : oper.op = .extract (.tmp n) i)
    (hst : stepS o env (.ext d i n) = some env') : ∃ u, (execOp a.eval oper).run P w = .ok (.value u) w ∧ FI P nt keep S base w0 env' (a.put (some d) u) w := by
  simp only [stepS] at hst
  cases hx : get n env with
  | none => rw [hx] at hst; cases hst
  | some x =>
    rw [hx] at hst
    simp only [Option.bind_some] at hst
    cases x <;> first | (cases hst; done) | skip
    rename_i ys
    simp only at hst
    cases hy : ys[i]? with
    | none => rw [hy] at hst; cases hst
    | some y =>
      rw [hy] at hst
      cases hst
      obtain ⟨Im, hI1, hI2, hE⟩ := hF.ents
      obtain ⟨u0, hu0, us, rfl, hul, hus⟩ := hE.ent n _ hx
      have hda : d < a.tmps.size := by rw [hF.size]; exact hd
      have hi : i < us.length := by rw [hul]; exact (List.getElem?_eq_some_iff.1 hy).1
      have hui : us[i]? = some us[i] := List.getElem?_eq_getElem hi
      have hiy : i < ys.length := (List.getElem?_eq_some_iff.1 hy).1
      have hset : ∀ j, (ys.set i .ud)[j]? = if j = i then some V.ud else ys[j]? := fun j => by
        rw [List.getElem?_set]
        by_cases h : i = j
        · subst h; simp [hiy]
        · rw [if_neg h, if_neg (fun e => h e.symm)]
      have hownset : ∀ c g, Owns (put n (.t (ys.set i .ud)) env) (tm a) n c g → ∃ j, c = some j ∧ j ≠ i ∧ Owns env (tm a) n (some j) g := by
        intro c g ho
        cases c with
        | none =>
          obtain ⟨z, _, hz, h1, _⟩ := ho
          rw [get_put, if_pos rfl] at hz
          cases hz; simp [V.isOwn] at h1
        | some j =>
          obtain ⟨ys', us', z, v, hz, h1, h2, h3, h4⟩ := ho
          rw [get_put, if_pos rfl] at hz
          cases hz
          rw [hset] at h2
          by_cases hj : j = i
          · rw [if_pos hj] at h2; cases h2; simp [V.isOwn] at h3
          · rw [if_neg hj] at h2
            exact ⟨j, rfl, hj, ys, us', z, v, hx, h1, h2, h3, h4⟩
      have hE1 : Ents P Im w base (put n (.t (ys.set i .ud)) env) (tm a) := by
        refine hE.upd (x' := .t (ys.set i .ud)) hx hu0 rfl (fun _ _ => rfl) (fun _ _ _ _ _ => rfl) (fun es' h => by simp [frz] at h) ⟨us, rfl, by simpa using hul, fun j v z hv hz => ?_⟩ (fun c g ho => by
          obtain ⟨j, rfl, _, h⟩ := hownset c g ho
          exact h)
        rw [hset] at hz
        by_cases hj : j = i
        · rw [if_pos hj] at hz; cases hz; exact .inl rfl
        · rw [if_neg hj] at hz; exact hus j v z hv hz
      have hs1 : Srt (put n (.t (ys.set i .ud)) env) := hF.srt.put _ _
      have hyk : y.names = none ∧ (∀ zs, y ≠ .t zs) ∧ (y = .ud ∨ (y.smp = true ∧ Res1 P Im w base us[i] y)) := by
        rcases hus i _ _ hui hy with rfl | h
        · exact ⟨rfl, by simp, .inl rfl⟩
        · cases y <;> first | exact h.elim | exact ⟨rfl, by simp, .inr ⟨rfl, h⟩⟩
      have hown0 : ∀ c g, Owns (put' d y (put n (.t (ys.set i .ud)) env)) (tm (a.put (some d) us[i])) d c g → c = none ∧ Owns env (tm a) n (some i) g := by
        intro c g ho
        cases c with
        | none =>
          obtain ⟨z, v, hz, h1, hT, hg⟩ := ho
          rw [get_put' hs1, if_pos rfl] at hz
          cases hz
          rw [tm_put hda, if_pos rfl] at hT
          cases hT
          exact ⟨rfl, ys, us, y, us[i], hx, hu0, hy, h1, hui, hg⟩
        | some j =>
          obtain ⟨zs, _, _, _, hz, _⟩ := ho
          rw [get_put' hs1, if_pos rfl] at hz
          cases hz
          exact absurd rfl (hyk.2.1 zs)
      have hE2 : Ents P Im w base (put' d y (put n (.t (ys.set i .ud)) env)) (tm (a.put (some d) us[i])) := by
        refine hE1.put hs1 d y us[i] ((tm_put hda d).trans (if_pos rfl)) (fun m z hm _ => (tm_put hda m).trans (if_neg hm)) ?_ (fun m hm => by rw [hyk.1] at hm; cases hm) (fun c g ho n' c' hn' ho' => ?_) (fun c c' g h h' => (hown0 c g h).1.trans (hown0 c' g h').1.symm)
        · rcases hyk.2.2 with rfl | ⟨h1, h2⟩
          · trivial
          · rw [Ent.res1 h1]; exact h2
        · have h1 := (hown0 c g ho).2
          by_cases hnn : n' = n
          · subst hnn
            obtain ⟨j, rfl, hj, h2⟩ := hownset c' g ho'
            exact hj (by have := (hE.apart _ _ _ _ _ h2 h1).2; simpa using this)
          · have h2 : Owns env (tm a) n' c' g := by
              cases c' with
              | none => obtain ⟨z, v, hz, h⟩ := ho'; rw [get_put, if_neg hnn] at hz; exact ⟨z, v, hz, h⟩
              | some j => obtain ⟨zs, vs, z, v, hz, h⟩ := ho'; rw [get_put, if_neg hnn] at hz; exact ⟨zs, vs, z, v, hz, h⟩
            exact hnn (hE.apart _ _ _ _ _ h2 h1).1
      refine ⟨us[i], ?_, hs1.put' _ _, by simpa [Act.put] using hF.size, hF.defers, hF.below, hF.bsz, fun m z hz => ?_, Im, hI1, hI2, hE2⟩
      · simp only [execOp, hop, eval_tmp hu0, Instr.extract]
        simp [hi]
      · by_cases hm : m = d
        · rw [hm]; exact ⟨hk, hd⟩
        · rw [get_put' hs1, if_neg hm] at hz
          have hz' : ∃ z', get m (put n (.t (ys.set i .ud)) env) = some z' := by
            cases hq : get d (put n (.t (ys.set i .ud)) env) with
            | none => rw [hq] at hz; exact ⟨_, hz⟩
            | some q =>
              rw [hq] at hz
              simp only at hz
              cases hq' : get m (put n (.t (ys.set i .ud)) env) with
              | none => rw [hq'] at hz; cases hz
              | some z' => exact ⟨z', rfl⟩
          obtain ⟨z', hz'⟩ := hz'
          rw [get_put] at hz'
          by_cases hmn : m = n
          · rw [hmn]; exact hF.keys n _ hx
          · rw [if_neg hmn] at hz'; exact hF.keys m z' hz'
theorem Ents.spent {Im : Nat → Prop} {env : Env} {T : Tm} (h : Ents P Im w base env T) {m : Nat} {x : V} (hx : get m env = some x) : Ents P Im w base (VM.put m .ud env) T ∧ ∀ n c g, Owns (VM.put m .ud env) T n c g → n ≠ m ∧ Owns env T n c g := by
  obtain ⟨u, hu, _⟩ := h.ent m x hx
  have key : ∀ n c g, Owns (VM.put m .ud env) T n c g → n ≠ m ∧ Owns env T n c g := by
    intro n c g ho
    cases c with
    | none =>
      obtain ⟨y, v, hy, h1, h2⟩ := ho
      rw [get_put] at hy
      by_cases hn : n = m
      · rw [if_pos hn] at hy; cases hy; simp [V.isOwn] at h1
      · rw [if_neg hn] at hy; exact ⟨hn, y, v, hy, h1, h2⟩
    | some j =>
      obtain ⟨ys, us, y, v, hy, h1⟩ := ho
      rw [get_put] at hy
      by_cases hn : n = m
      · rw [if_pos hn] at hy; cases hy
      · rw [if_neg hn] at hy; exact ⟨hn, ys, us, y, v, hy, h1⟩
  exact ⟨h.upd (x' := .ud) hx hu rfl (fun _ _ => rfl) (fun _ _ _ _ _ => rfl) (fun es' h => by simp [frz] at h) trivial fun c g ho => absurd rfl (key m c g ho).1, key⟩

/-- A copy into a slot, of all that a call returned as well. -/
theorem step_mv' (hF : FI P nt keep S base w0 env a w) {d : Nat} (hk : d ∈ keep) (hd : d < nt) {ty : TypeId} {x : Operand} {s : Src} (hs : srcT P ty x = some s) (hst : stepS o env (.mv d s) = some env') : FI P nt keep S base w0 env' (a.put (some d) (a.eval x)) w := by
  by_cases hnt : ∃ n ys, s = .t n ∧ get n env = some (.t ys)
  · obtain ⟨n, ys, rfl, hx⟩ := hnt
    have hxt : x = .tmp n := by
      cases x with
      | tmp n' => simp only [srcT, Option.some.injEq, Src.t.injEq] at hs; subst hs; rfl
      | const c => simp only [srcT] at hs; cases hc : constT P ty c <;> rw [hc] at hs <;> cases hs
      | func f => simp [srcT] at hs
      | global g => simp [srcT] at hs
    subst hxt
    simp only [stepS, hx, Option.bind_some] at hst
    split at hst
    · cases hst
    · rename_i hdn
      cases hst
      obtain ⟨Im, hI1, hI2, hE⟩ := hF.ents
      obtain ⟨u, hu, us, rfl, hul, hus⟩ := hE.ent n _ hx
      have hda : d < a.tmps.size := by rw [hF.size]; exact hd
      obtain ⟨hE1, ho1⟩ := hE.spent hx
      have hs1 : Srt (put n .ud env) := hF.srt.put _ _
      rw [eval_tmp hu]
      have hown0 : ∀ c g, Owns (put' d (.t ys) (put n .ud env)) (tm (a.put (some d) (.tuple us.toArray))) d c g → Owns env (tm a) n c g := by
        intro c g ho
        cases c with
        | none =>
          obtain ⟨z, v, hz, h1, _⟩ := ho
          rw [get_put' hs1, if_pos rfl] at hz
          cases hz; simp [V.isOwn] at h1
        | some j =>
          obtain ⟨zs, vs, z, v, hz, hT, h1, h2, h3, h4⟩ := ho
          rw [get_put' hs1, if_pos rfl] at hz
          cases hz
          rw [tm_put hda, if_pos rfl] at hT
          have : us = vs := by simpa using hT
          subst this
          exact ⟨ys, us, z, v, hx, hu, h1, h2, h3, h4⟩
      refine ⟨hs1.put' _ _, by simpa [Act.put] using hF.size, hF.defers, hF.below, hF.bsz, fun m z hz => ?_, Im, hI1, hI2, ?_⟩
      · by_cases hm : m = d
        · rw [hm]; exact ⟨hk, hd⟩
        · rw [get_put' hs1, if_neg hm] at hz
          have hz' : ∃ z', get m (put n .ud env) = some z' := by
            cases hq : get d (put n .ud env) with
            | none => rw [hq] at hz; exact ⟨_, hz⟩
            | some q =>
              rw [hq] at hz
              simp only at hz
              cases hq' : get m (put n .ud env) with
              | none => rw [hq'] at hz; cases hz
              | some z' => exact ⟨z', rfl⟩
          obtain ⟨z', hz'⟩ := hz'
          rw [get_put] at hz'
          by_cases hmn : m = n
          · rw [hmn]; exact hF.keys n _ hx
          · rw [if_neg hmn] at hz'; exact hF.keys m z' hz'
      · refine hE1.put hs1 d _ (.tuple us.toArray) ((tm_put hda d).trans (if_pos rfl)) (fun m z hm _ => (tm_put hda m).trans (if_neg hm)) ⟨us, rfl, hul, hus⟩ (fun m hm => by cases hm) (fun c g ho n' c' hn' ho' => ?_) (fun c c' g h h' => (hE.apart _ _ _ _ _ (hown0 c g h) (hown0 c' g h')).2)
        have h1 := hown0 c g ho
        have h2 := ho1 n' c' g ho'
        exact h2.1 (hE.apart _ _ _ _ _ h2.2 h1).1
  · exact step_mv hF hk hd hs (fun n ys e1 e2 => hnt ⟨n, ys, e1, e2⟩) hst
end
end Go.VM
