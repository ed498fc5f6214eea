/-
  The walk through a quiet region, in the text's order and in any. No program is named here.
-/
import Derived.Test.YtonibcnbcnibeaaVm7c
namespace Go.VM
open Go.RowKit

section
variable {P : Program} {S : Nat → Prop} {w : World}

theorem qop_inv {op : Op} {p : XOp} {xs : List Operand} (h : qop P op = some (p, xs)) :
    p.plain = true ∨ (∃ f args tys, op = .call { callee := .value (.func f), args := args, argTypes := tys } ∧ p = .call false f ∧ xs = args.toList) ∨
    (∃ x args tys, op = .call { callee := .value x, args := args, argTypes := tys } ∧ p = .callv false ∧ xs = x :: args.toList) ∨
    (∃ t n ps k, op = .buildSlice t n ps ∧ elemCells P t = some k ∧ (n * k ≤ 16777216 ∧ 0 < k ∧ ps.toList.map (·.1) = List.range n ∧ (zeroCells P (P.elem t)).isSome = true) ∧ p = .bsl k ∧ xs = ps.toList.map (·.2)) := by
  unfold qop at h
  split at h
  case h_14 =>
    rename_i t n ps
    right; right; right
    cases hk : elemCells P t with
    | none => rw [hk] at h; cases h
    | some k =>
      rw [hk] at h
      simp only at h
      split at h
      · rename_i hc
        simp only [Option.some.injEq, Prod.mk.injEq] at h
        exact ⟨t, n, ps, k, rfl, hk, hc, h.1.symm, h.2.symm⟩
      · cases h
  case h_15 =>
    rename_i f args tys
    simp only [Option.some.injEq, Prod.mk.injEq] at h
    exact .inr (.inl ⟨f, args, tys, rfl, h.1.symm, h.2.symm⟩)
  case h_16 =>
    rename_i x args tys _
    simp only [Option.some.injEq, Prod.mk.injEq] at h
    exact .inr (.inr (.inl ⟨x, args, tys, rfl, h.1.symm, h.2.symm⟩))
  all_goals
    left
    revert h
    repeat' split
    all_goals (intro h; first | (cases h; done) | skip)
    all_goals first
      | (simp only [Option.some.injEq, Prod.mk.injEq] at h; rw [← h.1]; rfl)
      | skip
  all_goals simp only [Option.map_eq_some_iff, Option.bind_eq_some_iff, Option.ite_none_right_eq_some, Option.some.injEq, Prod.mk.injEq] at h
  · obtain ⟨ks, _, h, _⟩ := h; rw [← h]; rfl
  · obtain ⟨ks, _, h, _⟩ := h; rw [← h]; rfl
  · obtain ⟨f, _, _, h, _⟩ := h; rw [← h]; rfl
  · obtain ⟨f, _, _, h, _⟩ := h; rw [← h]; rfl
  · obtain ⟨z, _, qs, _, pl, _, h, _⟩ := h; rw [← h]; rfl

theorem drawOp_plain {draw : Bool} {p p' : XOp} (h : drawOp draw p = some p') (hp : p.plain = true) : p' = p := by
  unfold drawOp at h
  split at h <;> first | (simp [XOp.plain] at hp; done) | (cases h; rfl)

section
variable {o : Orc} {env : Env} {isF : List QI} {a0 : Act} {defs : List (Tmp × Nat)} {is : List QI} {a : Act}

/-- One operation of a quiet region, in the text's order. -/
theorem node_seq (ho : SoundO P o) {draw : Bool} (h : QInv o env isF a0 (All w) defs is a w) (hl : ∀ n v, look env n = some v → ∃ u, a0.tmps[n]? = some u ∧ Rep (All w) w u v) {op : Oper} {q : QI} (hq : qnode P draw defs is op = some q)
    (hsrc : srcsOk is q = true) (hg : GH o env isF q.g) {v : V} (hv : evalX o env q.x = some v) :
    Outc P ((execOp a.eval op).run P w) fun u w1 => Below w.heap.size w w1 ∧ Rep (All w1) w1 u v := by
  rcases node_vals h hl hq hsrc hg hv with ⟨u, hu, hr⟩ | ⟨p, p', xs, vs, hp, hd, hr, hov⟩
  · rw [hr w]; exact ⟨Below.refl _ _, hu⟩
  · rcases qop_inv hp with hpl | ⟨f, args, tys, hop, rfl, rfl⟩ | ⟨x, args, tys, hop, rfl, rfl⟩ | ⟨t, n, ps, k, hop, hk, hc, rfl, rfl⟩
    · have := drawOp_plain hd hpl
      subst this
      obtain ⟨u, hu, hrun⟩ := qop_plain hp hpl a.eval op rfl vs v hr hov
      rw [hrun w fun _ _ => rfl]; exact ⟨Below.refl _ _, hu⟩
    · simp only [drawOp, Option.some.injEq] at hd
      subst hd
      have hov' : ((o f vs).bind fun r => if draw = true → r.uniq = true then some (frzt r) else none) = some v := by
        match vs, hov with
        | [], h => simpa [opQ] using h
        | [x], h => cases x <;> simpa [opQ] using h
        | [x, y], h => cases x <;> cases y <;> simpa [opQ] using h
        | x :: y :: _ :: _, h => cases x <;> simpa [opQ] using h
      cases hy : o f vs with
      | none => rw [hy] at hov'; cases hov'
      | some y =>
        rw [hy] at hov'
        simp only [Option.bind_some] at hov'
        split at hov'
        · cases hov'
          refine call_seq (us := args.toList.map a.eval) ho hy hr ?_
          have := call_enter ho (ρ := a.eval) (fun _ => rfl) hop hy w
          rw [this]
          congr 2
          apply Array.toList_inj.1; simp
        · cases hov'
    · simp only [drawOp, Option.some.injEq] at hd
      subst hd
      have hov' : ((callV o vs).bind fun r => if draw = true → r.uniq = true then some (frzt r) else none) = some v := by
        match vs, hov with
        | [], h => simpa [opQ] using h
        | [x], h => cases x <;> simpa [opQ] using h
        | [x, y], h => cases x <;> cases y <;> simpa [opQ] using h
        | x :: y :: _ :: _, h => cases x <;> simpa [opQ] using h
      cases hy : callV o vs with
      | none => rw [hy] at hov'; cases hov'
      | some y =>
        rw [hy] at hov'
        simp only [Option.bind_some] at hov'
        split at hov'
        · cases hov'
          obtain ⟨f, us, zs, hz, hzr, hrun⟩ := callv_enter ho hop hr hy
          exact call_seq ho hz hzr (hrun w)
        · cases hov'
    · have hp' : p' = .bsl k := by
        cases draw with
        | true => simp [drawOp] at hd
        | false => simpa [drawOp] using hd.symm
      subst hp'
      have hov' : (if vs.all (fun x => x.cells.length == k && x.cells.all V.cell) then some (V.l vs) else none) = some v := by
        match vs, hov with
        | [], h => simpa [opQ] using h
        | [x], h => cases x <;> simpa [opQ] using h
        | [x, y], h => cases x <;> cases y <;> simpa [opQ] using h
        | x :: y :: _ :: _, h => cases x <;> simpa [opQ] using h
      split at hov'
      · rename_i hall
        cases hov'
        have hall1 : ∀ x ∈ vs, x.cells.length = k := fun x hx => by
          have := List.all_eq_true.1 hall x hx
          simp only [Bool.and_eq_true, beq_iff_eq] at this
          exact this.1
        have hall2 : ∀ x ∈ flatc vs, x.cell = true := fun x hx => by
          obtain ⟨e, he, hx⟩ := List.mem_flatMap.1 hx
          have := List.all_eq_true.1 hall e he
          simp only [Bool.and_eq_true, beq_iff_eq] at this
          exact List.all_eq_true.1 this.2 x hx
        obtain ⟨e, hu⟩ : ∃ e, P.underlying t = some (.slice e) := by
          unfold elemCells at hk
          split at hk
          · rename_i e hu; exact ⟨e, hu⟩
          · cases hk
        have hk' : (P.info? e).map (·.size) = some k := by simpa [elemCells, hu] using hk
        have hel : P.elem t = e := by simp [Program.elem, hu]
        rw [hel] at hc
        obtain ⟨cells, hcr, hcl, hn, hrun⟩ := bsl_run (w := w) hu hk' hc.1 hc.2.2.2 ps hc.2.2.1 a.eval vs (by simpa [List.map_map, Function.comp_def] using hr) hall1
        have hx : (execOp a.eval op).run P w = .ok (.value (.slice (some ⟨w.heap.size, 0, none⟩) n n)) (w.alloc (.cells cells.toArray e)) := by
          have := hrun w
          simp only [execOp, hop, Sem.run_bind, this, Result.andThen_ok, Sem.run_pure]
        rw [hx]
        refine ⟨(Below.refl _ _).alloc (Nat.le_refl _) _, ?_⟩
        rw [← hn]
        refine Rep.mk_slice hall1 hall2 (vs := cells) ?_ (Nat.le_refl _) (.inr ⟨_, rfl, ?_, fun j u hj => ?_⟩)
        · exact hcr.move (fun b hb => Nat.lt_of_lt_of_le hb (by simp)) fun p hp => World.cell?_alloc_lt w _ p hp
        · simp [All]
        · have hh : (w.alloc (.cells cells.toArray e)).heap[w.heap.size]? = some (.cells cells.toArray e (0, 0)) := heap_alloc_new w _
          simp only [World.cell?, add_block, hh]
          unfold Addr.add
          split
          · rename_i hj0; subst hj0; simpa using hj
          · simpa using hj
      · cases hov'

/-- The same in a region that draws its order. -/
theorem node_quiet (ho : SoundO P o) (hS : ∀ b, S b → b < w.heap.size) (h : QInv o env isF a0 S defs is a w) (hl : ∀ n v, look env n = some v → ∃ u, a0.tmps[n]? = some u ∧ Rep S w u v) {op : Oper} {q : QI} (hq : qnode P true defs is op = some q)
    (hsrc : srcsOk is q = true) (hg : GH o env isF q.g) {v : V} (hv : evalX o env q.x = some v) :
    ∃ u, Rep S w u v ∧ ∀ w', Below w.heap.size w w' → Oper.quietUpon P (Below w.heap.size w) w' u ((execOp a.eval op).run P w') := by
  rcases node_vals h hl hq hsrc hg hv with ⟨u, hu, hr⟩ | ⟨p, p', xs, vs, hp, hd, hr, hov⟩
  · exact ⟨u, hu, fun w' _ => by rw [hr w']; exact ⟨rfl, rfl⟩⟩
  · rcases qop_inv hp with hpl | ⟨f, args, tys, hop, rfl, rfl⟩ | ⟨x, args, tys, hop, rfl, rfl⟩ | ⟨t, n, ps, k, hop, hk, hc, rfl, rfl⟩
    · have := drawOp_plain hd hpl
      subst this
      obtain ⟨u, hu, hrun⟩ := qop_plain hp hpl a.eval op rfl vs v hr hov
      exact ⟨u, hu, fun w' hb => by rw [hrun w' fun p hp => hb.cell (hS _ hp)]; exact ⟨rfl, rfl⟩⟩
    · simp only [drawOp, Option.some.injEq] at hd
      subst hd
      have hov' : ((o f vs).bind fun r => if true = true → r.uniq = true then some (frzt r) else none) = some v := by
        match vs, hov with
        | [], h => simpa [opQ] using h
        | [x], h => cases x <;> simpa [opQ] using h
        | [x, y], h => cases x <;> cases y <;> simpa [opQ] using h
        | x :: y :: _ :: _, h => cases x <;> simpa [opQ] using h
      cases hy : o f vs with
      | none => rw [hy] at hov'; cases hov'
      | some y =>
        rw [hy] at hov'
        simp only [Option.bind_some] at hov'
        split at hov'
        · rename_i hun
          cases hov'
          refine call_quiet (us := args.toList.map a.eval) ho hy (hun trivial) hS hr fun w' => ?_
          have := call_enter ho (ρ := a.eval) (fun _ => rfl) hop hy w'
          rw [this]
          congr 2
          apply Array.toList_inj.1; simp
        · cases hov'
    · simp only [drawOp, Option.some.injEq] at hd
      subst hd
      have hov' : ((callV o vs).bind fun r => if true = true → r.uniq = true then some (frzt r) else none) = some v := by
        match vs, hov with
        | [], h => simpa [opQ] using h
        | [x], h => cases x <;> simpa [opQ] using h
        | [x, y], h => cases x <;> cases y <;> simpa [opQ] using h
        | x :: y :: _ :: _, h => cases x <;> simpa [opQ] using h
      cases hy : callV o vs with
      | none => rw [hy] at hov'; cases hov'
      | some y =>
        rw [hy] at hov'
        simp only [Option.bind_some] at hov'
        split at hov'
        · rename_i hun
          cases hov'
          obtain ⟨f, us, zs, hz, hzr, hrun⟩ := callv_enter ho hop hr hy
          exact call_quiet ho hz (hun trivial) hS hzr hrun
        · cases hov'
    · simp [drawOp] at hd
end
end
end Go.VM
