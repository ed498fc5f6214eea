/-
  A region in mode Q does what the evaluator says: the two walks, and the frame behind them. No program is named here.
-/
import Derived.Test.YtonibcnbcnibeaaVm8d
namespace Go.VM
open Go.RowKit

section
variable {P : Program} {o : Orc} {env : Env} {opsL : List Oper} {isF : List QI} {a0 : Act} {dF : List (Tmp × Nat)}

theorem drop_cons {α : Type} {l : List α} {n : Nat} {x : α} {r : List α} (h : l.drop n = x :: r) : l[n]? = some x ∧ l.drop (n + 1) = r := by
  have h1 : (l.drop n)[0]? = some x := by rw [h]; rfl
  rw [List.getElem?_drop] at h1
  refine ⟨by simpa using h1, ?_⟩
  rw [← List.tail_drop, h]; rfl

theorem qwalk_seq (ho : SoundO P o) {draw : Bool} {Q : Exit → Act → World → Prop} (hD : ∀ (i : Nat) q, isF[i]? = some q → GH o env isF q.g → ∃ v, evalX o env q.x = some v) :
    ∀ (r : List Oper) (defs : List (Tmp × Nat)) (is : List QI) (a : Act) (w : World), qgo P draw opsL r defs is = some (dF, isF) → opsL.drop is.length = r → (∀ op ∈ r, ∀ d, op.dst = some d → d < a0.tmps.size) →
    QInv o env isF a0 (All w) defs is a w → (∀ n v, look env n = some v → ∃ u, a0.tmps[n]? = some u ∧ Rep (All w) w u v) →
    (∀ a' w', Below w.heap.size w w' → QInv o env isF a0 (All w') dF isF a' w' → Q .normal a' w') → wpOps P opsL.toArray Q (List.range' is.length r.length) a w
  | [], defs, is, a, w, h, _, _, hI, _, hQ => by
    simp only [qgo, Option.some.injEq, Prod.mk.injEq] at h
    obtain ⟨rfl, rfl⟩ := h
    exact hQ a w (Below.refl _ _) hI
  | op :: r, defs, is, a, w, h, hdrop, hlt, hI, hl, hQ => by
    obtain ⟨d, q, hd, hok, hq, hsrc, hgo⟩ := qgo_cons h
    obtain ⟨tl, h1, _⟩ := qgo_prefix _ _ _ _ _ hgo
    have hqF : isF[is.length]? = some q := by rw [h1, List.getElem?_append_left (by simp)]; simp
    obtain ⟨hat, hdrop'⟩ := drop_cons hdrop
    have hg := (qnode_shape (fun t j hd => defOf_lt hI hd) hI.2.2.1 hq).2
    have hw := wanted_iff hI hD hok
    have hlen : (is ++ [q]).length = is.length + 1 := by simp
    simp only [List.length_cons, List.range'_succ, wpOps, List.getElem?_toArray, hat]
    have hnext : ∀ (u : Value) (w1 : World), Below w.heap.size w w1 → (GH o env isF q.g → ∀ v, evalX o env q.x = some v → Rep (All w1) w1 u v) → (¬ GH o env isF q.g → ∀ b, u ≠ .bool b) →
        wpOps P opsL.toArray Q (List.range' (is.length + 1) r.length) (a.put op.dst u) w1 := by
      intro u w1 hb hu hn
      have hI1 := (hI.move (All.below hb) fun p hp => hb.cell hp).step (hlt op (List.mem_cons_self ..) d hd) hqF u hu hn
      rw [hd]
      have := qwalk_seq ho hD r _ (is ++ [q]) (a.put (some d) u) w1 hgo (by rw [hlen]; exact hdrop') (fun op' h' => hlt op' (List.mem_cons_of_mem _ h')) hI1
        (fun n v hv => let ⟨u, h1, h2⟩ := hl n v hv; ⟨u, h1, h2.move (All.below hb) fun p hp => hb.cell hp⟩)
        (fun a' w' hb' hI' => hQ a' w' (hb.trans (hb'.mono hb.size)) hI')
      rw [hlen] at this
      exact this
    split
    · rename_i hwt
      have hgh := hw.1 hwt
      rw [← hg] at hgh
      obtain ⟨v, hv⟩ := hD _ q hqF hgh
      left
      refine Outc.wp ?_
      have := node_seq ho hI hl hq hsrc hgh hv
      revert this
      generalize (execOp a.eval op).run P w = res
      intro hres
      unfold Outc at hres ⊢
      split at hres
      · exact hnext _ _ hres.1 (fun _ v' hv' => by rw [hv] at hv'; cases hv'; exact hres.2) fun hng => absurd hgh hng
      · exact hnext _ _ hres.1 (fun _ v' hv' => by rw [hv] at hv'; cases hv'; exact hres.2) fun hng => absurd hgh hng
      · refine hres.mono fun e w1 ⟨u, he, hb, hr⟩ => ⟨u, he, ?_⟩
        exact hnext _ _ hb (fun _ v' hv' => by rw [hv] at hv'; cases hv'; exact hr) fun hng => absurd hgh hng
      · exact hres.elim
    · rename_i hwt
      refine hnext undef w (Below.refl _ _) (fun hgh => absurd (hw.2 (hg ▸ hgh)) hwt) fun _ b e => ?_
      simp [undef] at e

theorem qwalk_quiet (ho : SoundO P o) {w : World} {Q : Act → Prop} (hD : ∀ (i : Nat) q, isF[i]? = some q → GH o env isF q.g → ∃ v, evalX o env q.x = some v) (hl : ∀ n v, look env n = some v → ∃ u, a0.tmps[n]? = some u ∧ Rep (All w) w u v) :
    ∀ (r : List Oper) (defs : List (Tmp × Nat)) (is : List QI) (a : Act), qgo P true opsL r defs is = some (dF, isF) → (∀ op ∈ r, ∀ d, op.dst = some d → d < a0.tmps.size) →
    QInv o env isF a0 (All w) defs is a w → (∀ a', QInv o env isF a0 (All w) dF isF a' w → Q a') → wpQuiet P opsL.toArray (Below w.heap.size w) Q r a
  | [], defs, is, a, h, _, hI, hQ => by
    simp only [qgo, Option.some.injEq, Prod.mk.injEq] at h
    obtain ⟨rfl, rfl⟩ := h
    exact hQ a hI
  | op :: r, defs, is, a, h, hlt, hI, hQ => by
    obtain ⟨d, q, hd, hok, hq, hsrc, hgo⟩ := qgo_cons h
    obtain ⟨tl, h1, _⟩ := qgo_prefix _ _ _ _ _ hgo
    have hqF : isF[is.length]? = some q := by rw [h1, List.getElem?_append_left (by simp)]; simp
    have hg := (qnode_shape (fun t j hd => defOf_lt hI hd) hI.2.2.1 hq).2
    have hw := wanted_iff hI hD hok
    have hnext : ∀ (u : Value), (GH o env isF q.g → ∀ v, evalX o env q.x = some v → Rep (All w) w u v) → (¬ GH o env isF q.g → ∀ b, u ≠ .bool b) →
        wpQuiet P opsL.toArray (Below w.heap.size w) Q r (a.put op.dst u) := by
      intro u hu hn
      rw [hd]
      exact qwalk_quiet ho hD hl r _ (is ++ [q]) (a.put (some d) u) hgo (fun op' h' => hlt op' (List.mem_cons_of_mem _ h')) (hI.step (hlt op (List.mem_cons_self ..) d hd) hqF u hu hn) hQ
    simp only [wpQuiet]
    split
    · rename_i hwt
      have hgh := hw.1 hwt
      rw [← hg] at hgh
      obtain ⟨v, hv⟩ := hD _ q hqF hgh
      obtain ⟨u, hu, hrun⟩ := node_quiet ho (fun _ h => h) hI hl hq hsrc hgh hv
      exact ⟨u, fun w' hb => hrun w' hb, hnext u (fun _ v' hv' => by rw [hv] at hv'; cases hv'; exact hu) fun hng => absurd hgh hng⟩
    · rename_i hwt
      refine hnext undef (fun hgh => absurd (hw.2 (hg ▸ hgh)) hwt) fun _ b e => ?_
      simp [undef] at e

theorem rootsOf_spec {defs : List (Tmp × Nat)} {is : List QI} : ∀ {ds : List Nat} {rs : List (Nat × X)} {js : List Nat}, rootsOf defs is ds = some (rs, js) →
    (∀ p ∈ rs, p.1 ∈ ds ∧ ∃ j q, defOf defs p.1 = some j ∧ is[j]? = some q ∧ q.g = none ∧ p.2 = q.x) ∧ (∀ d ∈ ds, defOf defs d ≠ none → ∃ x, (d, x) ∈ rs) ∧ (∀ j ∈ js, ∃ d q, is[j]? = some q ∧ (d, q.x) ∈ rs)
  | [], rs, js, h => by
    simp only [rootsOf, Option.some.injEq, Prod.mk.injEq] at h
    obtain ⟨rfl, rfl⟩ := h
    exact ⟨by simp, by simp, by simp⟩
  | d :: ds, rs, js, h => by
    simp only [rootsOf] at h
    cases hr : rootsOf defs is ds with
    | none => rw [hr] at h; cases h
    | some p =>
      obtain ⟨rs', js'⟩ := p
      rw [hr] at h
      simp only [Option.bind_some] at h
      obtain ⟨h1, h2, h3⟩ := rootsOf_spec hr
      cases hd : defOf defs d with
      | none =>
        rw [hd] at h
        simp only [Option.some.injEq, Prod.mk.injEq] at h
        obtain ⟨rfl, rfl⟩ := h
        refine ⟨fun p hp => ⟨List.mem_cons_of_mem _ (h1 p hp).1, (h1 p hp).2⟩, fun d' hd' hn => ?_, h3⟩
        rcases List.mem_cons.1 hd' with rfl | hd'
        · exact absurd hd hn
        · exact h2 d' hd' hn
      | some j =>
        rw [hd] at h
        simp only at h
        cases hq : is[j]? with
        | none => rw [hq] at h; cases h
        | some q =>
          rw [hq] at h
          simp only [Option.bind_some] at h
          split at h
          · rename_i hg
            simp only [Option.some.injEq, Prod.mk.injEq] at h
            obtain ⟨rfl, rfl⟩ := h
            refine ⟨fun p hp => ?_, fun d' hd' hn => ?_, fun j' hj' => ?_⟩
            · rcases List.mem_cons.1 hp with rfl | hp
              · exact ⟨List.mem_cons_self .., j, q, hd, hq, by simpa using hg, rfl⟩
              · exact ⟨List.mem_cons_of_mem _ (h1 p hp).1, (h1 p hp).2⟩
            · rcases List.mem_cons.1 hd' with rfl | hd'
              · exact ⟨q.x, List.mem_cons_self ..⟩
              · obtain ⟨x, hx⟩ := h2 d' hd' hn; exact ⟨x, List.mem_cons_of_mem _ hx⟩
            · rcases List.mem_cons.1 hj' with rfl | hj'
              · exact ⟨d, q, hq, List.mem_cons_self ..⟩
              · obtain ⟨d', q', h4, h5⟩ := h3 j' hj'; exact ⟨d', q', h4, List.mem_cons_of_mem _ h5⟩
          · cases h

theorem putsQ_vals : ∀ {rs : List (Nat × X)} {acc env' : Env}, putsQ o env rs acc = some env' → ∀ p ∈ rs, ∃ v, evalX o env p.2 = some v ∧ v.flat1 = true
  | [], _, _, _, p, hp => by cases hp
  | q :: rs, acc, env', h, p, hp => by
    simp only [putsQ] at h
    cases hv : evalX o env q.2 with
    | none => rw [hv] at h; cases h
    | some v =>
      rw [hv] at h
      simp only [Option.bind_some] at h
      split at h
      · rcases List.mem_cons.1 hp with rfl | hp
        · exact ⟨v, hv, ‹_›⟩
        · exact putsQ_vals h p hp
      · cases h

theorem flat_smp {S : Nat → Prop} {w : World} {u : Value} {v : V} (h : Rep S w u v) : v.names = none ∧ v.isOwn = false ∧ (v.smp = true ∨ ∃ ys, v = .t ys) := by
  cases h <;> simp [V.names, V.isOwn, V.smp]

/-- The roots are written. -/
theorem putsQ_ents {Im : Nat → Prop} {w : World} {base : Nat} {T' : Tm} : ∀ {rs : List (Nat × X)} {acc env' : Env} {T : Tm}, putsQ o env rs acc = some env' → Srt acc → Ents P Im w base acc T →
    (∀ p ∈ rs, ∀ v, evalX o env p.2 = some v → ∃ u, T' p.1 = some u ∧ Rep Im w u v ∧ v.smp = true) → (∀ n x, get n acc = some x → (∃ y, (n, y) ∈ rs) ∨ T' n = T n) →
    Srt env' ∧ Ents P Im w base env' T' ∧ ∀ n x, get n env' = some x → (∃ y, (n, y) ∈ rs) ∨ ∃ x', get n acc = some x'
  | [], acc, env', T, h, hs, he, _, hT => by
    simp only [putsQ, Option.some.injEq] at h
    subst h
    exact ⟨hs, he.congr fun n x hx => (hT n x hx).resolve_left (by simp), fun n x hx => .inr ⟨x, hx⟩⟩
  | q :: rs, acc, env', T, h, hs, he, hr, hT => by
    simp only [putsQ] at h
    cases hv : evalX o env q.2 with
    | none => rw [hv] at h; cases h
    | some v =>
      rw [hv] at h
      simp only [Option.bind_some] at h
      split at h
      · obtain ⟨u, hu, hrep, hsmp⟩ := hr q (List.mem_cons_self ..) v hv
        obtain ⟨hnm, hno, _⟩ := flat_smp hrep
        have hnoT : ∀ c g, ¬ Owns (put' q.1 v acc) (fun n => if n = q.1 then some u else T n) q.1 c g := by
          intro c g ho
          cases c with
          | none =>
            obtain ⟨x, _, hx, hown, _⟩ := ho
            rw [get_put' hs, if_pos rfl] at hx
            cases hx
            rw [hno] at hown; cases hown
          | some j =>
            obtain ⟨ys, _, _, _, hx, _⟩ := ho
            rw [get_put' hs, if_pos rfl] at hx
            cases hx
            simp [V.smp] at hsmp
        have hput := he.put (T' := fun n => if n = q.1 then some u else T n) hs q.1 v u (by simp) (fun m y hm _ => by simp [hm])
          (by
            rw [Ent.res1 hsmp]
            cases v <;> first | exact hrep | (simp [V.isOwn] at hno; done) | (simp [V.smp] at hsmp; done)) (fun m hm => by rw [hnm] at hm; cases hm) (fun c g ho => absurd ho (hnoT c g)) (fun c c' g ho => absurd ho (hnoT c g))
        obtain ⟨h1, h2, h3⟩ := putsQ_ents h (hs.put' _ _) hput (fun p hp => hr p (List.mem_cons_of_mem _ hp)) (fun n x hx => by
          by_cases hn : n = q.1
          · right; subst hn; simpa using hu
          · rw [get_put' hs, if_neg hn] at hx
            have hacc : ∃ x', get n acc = some x' := by
              cases hq : get q.1 acc with
              | none => rw [hq] at hx; exact ⟨x, hx⟩
              | some z =>
                rw [hq] at hx
                simp only at hx
                cases hn' : get n acc with
                | none => rw [hn'] at hx; cases hx
                | some x' => exact ⟨x', rfl⟩
            obtain ⟨x', hx'⟩ := hacc
            rcases hT n x' hx' with ⟨y, hy⟩ | hy
            · rcases List.mem_cons.1 hy with e | hy
              · exact absurd (congrArg Prod.fst e) hn
              · exact .inl ⟨y, hy⟩
            · right; simpa [hn] using hy)
        refine ⟨h1, h2, fun n x hx => ?_⟩
        rcases h3 n x hx with ⟨y, hy⟩ | ⟨x', hx'⟩
        · exact .inl ⟨y, List.mem_cons_of_mem _ hy⟩
        · by_cases hn : n = q.1
          · left; subst hn; exact ⟨q.2, List.mem_cons_self ..⟩
          · right
            rw [get_put' hs, if_neg hn] at hx'
            cases hq : get q.1 acc with
            | none => rw [hq] at hx'; exact ⟨x', hx'⟩
            | some z =>
              rw [hq] at hx'
              simp only at hx'
              cases hn' : get n acc with
              | none => rw [hn'] at hx'; cases hx'
              | some x'' => exact ⟨x'', rfl⟩
      · cases h

theorem mem_writes {keep : List Nat} {ops : List Oper} {d : Nat} : d ∈ writes keep ops ↔ d ∈ keep ∧ ∃ op ∈ ops, op.dst = some d := by
  unfold writes
  rw [List.mem_eraseDups, List.mem_filterMap]
  constructor
  · rintro ⟨op, hop, h⟩
    cases hd : op.dst with
    | none => rw [hd] at h; cases h
    | some d' =>
      rw [hd] at h
      simp only [Option.bind_some] at h
      split at h
      · cases h; rename_i hc; exact ⟨by simpa using hc, op, hop, hd⟩
      · cases h
  · rintro ⟨hk, op, hop, hd⟩
    exact ⟨op, hop, by simp [hd, hk]⟩
theorem qgo_defs {draw : Bool} : ∀ (r : List Oper) (defs dF : List (Tmp × Nat)) (is iF : List QI), qgo P draw opsL r defs is = some (dF, iF) → ∀ t j, defOf dF t = some j → (∃ op ∈ r, op.dst = some t) ∨ ∃ j', defOf defs t = some j'
  | [], defs, dF, is, iF, h, t, j, hd => by
    simp only [qgo, Option.some.injEq, Prod.mk.injEq] at h
    exact .inr ⟨j, h.1 ▸ hd⟩
  | op :: r, defs, dF, is, iF, h, t, j, hd => by
    obtain ⟨d, q, hdst, _, _, _, hgo⟩ := qgo_cons h
    rcases qgo_defs r _ _ _ _ hgo t j hd with ⟨op', h1, h2⟩ | ⟨j', h1⟩
    · exact .inl ⟨op', List.mem_cons_of_mem _ h1, h2⟩
    · rw [defOf_cons] at h1
      split at h1
      · rename_i e; subst e; exact .inl ⟨op, List.mem_cons_self .., hdst⟩
      · exact .inr ⟨j', h1⟩
end

/-- A region in mode Q. -/
theorem regQ_sound {P : Program} {o : Orc} (ho : SoundO P o) (hm : P.follows .mixedOrders = true) {nt : Nat} {keep : List Nat} {S : Nat → Prop} {base : Nat} {w0 : World} {id : Nat} {ops : Array Oper} {draw : Bool} {rs : List (Nat × X)}
    (h : regQ P nt keep ops.toList draw = some rs) {env env' : Env} (hput : putsQ o env rs env = some env') {a : Act} {w : World} (hF : FI P nt keep S base w0 env a w) {Q : Exit → Act → World → Prop}
    (hQ : ∀ a' w', FI P nt keep S base w0 env' a' w' → Q .normal a' w') : (Code.region id ops draw).wp P Q a w := by
  unfold regQ at h
  cases hgo : qgo P draw ops.toList ops.toList [] [] with
  | none => rw [hgo] at h; cases h
  | some p =>
    obtain ⟨dF, isF⟩ := p
    rw [hgo] at h
    simp only [Option.bind_some] at h
    cases hro : rootsOf dF isF (writes keep ops.toList) with
    | none => rw [hro] at h; cases h
    | some p =>
      obtain ⟨rs', js⟩ := p
      rw [hro] at h
      simp only [Option.bind_some] at h
      split at h
      · rename_i hc
        cases h
        simp only [Bool.and_eq_true, Bool.or_eq_true, Bool.not_eq_true'] at hc
        obtain ⟨⟨hdem, hdraw⟩, hnt⟩ := hc
        obtain ⟨Im, hI1, hI2, hE⟩ := hF.ents
        have hIm : ∀ b, Im b → b < w.heap.size := fun b hb => (hI2 b hb).2
        have hl : ∀ n v, look env n = some v → ∃ u, a.tmps[n]? = some u ∧ Rep (All w) w u v := fun n v hv => look_sound hE hIm hv
        have hsh := qgo_shape _ _ _ _ _ hgo (fun t j hd => by simp [defOf] at hd) (fun k q hk => by simp at hk)
        obtain ⟨hr1, hr2, hr3⟩ := rootsOf_spec hro
        have hvals := putsQ_vals hput
        have hD : ∀ (i : Nat) q, isF[i]? = some q → GH o env isF q.g → ∃ v, evalX o env q.x = some v := fun i q hq hg =>
          demanded_spec hsh hdem (fun j hj q' hq' => by
            obtain ⟨d, q2, h1, h2⟩ := hr3 j hj
            rw [hq'] at h1; cases h1
            obtain ⟨v, hv, _⟩ := hvals _ h2
            exact ⟨v, hv⟩) _ i (Nat.le_refl _) q hq hg
        have hlt : ∀ op ∈ ops.toList, ∀ d, op.dst = some d → d < a.tmps.size := fun op hop d hd => by
          have := List.all_eq_true.1 hnt op hop
          rw [hd] at this
          rw [hF.size]; simpa using this
        have hI0 : QInv o env isF a (All w) [] [] a w := ⟨rfl, rfl, fun j hj => by simp at hj, Nat.zero_le _, fun t => by simp [defOf]⟩
        have hend : ∀ (a' : Act) (w1 w' : World), Below w.heap.size w w' → QInv o env isF a (All w1) dF isF a' w1 → FI P nt keep S base w0 env' a' w' := by
          intro a' w1 w' hb hQI
          obtain ⟨h1, h2, _, _, h4⟩ := hQI
          have hE' := hE.move (w' := w') (fun _ h => h) (fun n c g ho' => (Owns.lt hE ho').2.2) (fun b hb' => hb.block b hb') hIm
          have hputs := putsQ_ents (T := fun n => a.tmps[n]?) (T' := fun n => a'.tmps[n]?) hput hF.srt hE' (fun p hp v hv => by
              obtain ⟨_, j, q, hd, hq, hg, hx⟩ := hr1 p hp
              have := h4 p.1
              rw [hd] at this
              obtain ⟨q', hq', hy, _⟩ := this
              rw [hq] at hq'; cases hq'
              rw [hx] at hv
              obtain ⟨u, hu, hr⟩ := hy (by rw [hg]; exact .top) v hv
              obtain ⟨v', hv', hfl⟩ := hvals p hp
              rw [hx, hv] at hv'; cases hv'
              have hsm := (flat_smp hr).2.2
              have hflat : v.flat = true := by cases v <;> first | exact hfl | (simp [V.flat1] at hfl; done)
              refine ⟨u, hu, hr.of_flat hflat, ?_⟩
              rcases hsm with hsm | ⟨ys, rfl⟩
              · exact hsm
              · simp [V.flat1] at hfl) (fun n x hx => by
              have := h4 n
              cases hd : defOf dF n with
              | none => rw [hd] at this; exact .inr this
              | some j =>
                left
                rcases qgo_defs _ _ _ _ _ hgo n j hd with ⟨op, hop, hdst⟩ | ⟨j', hj'⟩
                · exact hr2 n (mem_writes.2 ⟨(hF.keys n x hx).1, op, hop, hdst⟩) (by rw [hd]; simp)
                · simp [defOf] at hj')
          refine ⟨hputs.1, h1.trans hF.size, h2.trans hF.defers, hF.below.trans (hb.mono hF.bsz), Nat.le_trans hF.bsz hb.size, fun n x hx => ?_, Im, hI1, fun b hb' => ⟨(hI2 b hb').1, Nat.lt_of_lt_of_le (hIm b hb') hb.size⟩, hputs.2.1⟩
          rcases hputs.2.2 n x hx with ⟨y, hy⟩ | ⟨x', hx'⟩
          · obtain ⟨hw, _⟩ := hr1 _ hy
            obtain ⟨hk, op, hop, hdst⟩ := mem_writes.1 hw
            exact ⟨hk, by rw [← hF.size]; exact hlt op hop n hdst⟩
          · exact hF.keys n x' hx'
        cases draw with
        | false =>
          refine wp_region ?_
          have := qwalk_seq (P := P) (opsL := ops.toList) ho hD ops.toList [] [] a w hgo (by simp) hlt hI0 hl (Q := Q) fun a' w' hb hQI => hQ a' w' (hend a' w' w' hb hQI)
          simpa [List.range_eq_range'] using this
        | true =>
          have hq : quietB ops.toList = true := by simpa using hdraw
          unfold quietB at hq
          simp only [Bool.and_eq_true] at hq
          refine wp_region_quiet (C := Below w.heap.size w) hm (by simpa using hq.2) ⟨rfl, rfl, rfl, Nat.le_refl _, fun _ _ => rfl⟩ ?_
          have := qwalk_quiet (P := P) (opsL := ops.toList) (Q := fun a' => ∀ w', Below w.heap.size w w' → Q .normal a' w') ho hD hl ops.toList [] [] a hgo hlt hI0 fun a' hQI w' hb => hQ a' w' (hend a' w w' hb hQI)
          simpa using this
      · cases h
end Go.VM
