/-
  A region in mode Q does what the evaluator says: the two walks, and the frame behind them. No program is named here.
-/
import Derived.Test.YtdlpbedneamebaaGreatDoorVmE
set_option linter.unusedSectionVars false
namespace Go.VM
open Go.RowKit
variable [Glob]

section
variable {P : Program} {o : Orc} {env : Env} {opsL : List Oper} {isF : List QI} {a0 : Act} {dF : List (Tmp × Nat)}

theorem drop_cons {α : Type} {l : List α} {n : Nat} {x : α} {r : List α} (h : l.drop n = x :: r) : l[n]? = some x ∧ l.drop (n + 1) = r := by
  have h1 : (l.drop n)[0]? = some x := by rw [h]; rfl
  rw [List.getElem?_drop] at h1
  refine ⟨by simpa using h1, ?_⟩
  rw [← List.tail_drop, h]; rfl

theorem qwalk_seq (ho : SoundO P o) {draw : Bool} {Q : Exit → Act → World → Prop} (hD : ∀ (i : Nat) q, isF[i]? = some q → GH o env isF q.g → ∃ v, evalX o env q.x = some v) :
    ∀ (r : List Oper) (defs : List (Tmp × Nat)) (is : List QI) (a : Act) (w : World), qgo P draw opsL r defs is = some (dF, isF) → opsL.drop is.length = r → (∀ op ∈ r, ∀ d, op.dst = some d → d < a0.tmps.size) →
    QInv o env isF a0 (All w) defs is a w → ((∀ n v, look env n = some v → ∃ u, a0.tmps[n]? = some u ∧ Rep (All w) w u v) ∧ GOK (All w) w) →
    (∀ a' w', Below w.heap.size w w' → QInv o env isF a0 (All w') dF isF a' w' → Q .normal a' w') → wpOps P opsL.toArray Q (List.range' is.length r.length) a w
  | [], defs, is, a, w, h, _, _, hI, _, hQ => by
    simp only [qgo, Option.some.injEq, Prod.mk.injEq] at h
    obtain ⟨rfl, rfl⟩ := h
    exact hQ a w (Below.refl _ _) hI
  | op :: r, defs, is, a, w, h, hdrop, hlt, hI, hl, hQ => by
    obtain ⟨d, q, hd, hok, hq, hsrc, hgo⟩ := qgo_cons h
    obtain ⟨tl, h1, _⟩ := qgo_prefix _ _ _ _ _ hgo
    have hqF : isF[is.length]? = some q := by rw [h1, List.getElem?_append_left (by simp)]; simp
    obtain ⟨hat, hdrop'⟩ := drop_cons hdrop
    have hg := (qnode_shape (fun t j hd => defOf_lt hI hd) hI.2.2.1 hq).2
    have hw := wanted_iff hI hD hok (fun _ _ _ => trivial)
    have hlen : (is ++ [q]).length = is.length + 1 := by simp
    simp only [List.length_cons, List.range'_succ, wpOps, List.getElem?_toArray, hat]
    have hnext : ∀ (u : Value) (w1 : World), Below w.heap.size w w1 → (GH o env isF q.g → ∀ v, evalX o env q.x = some v → Rep (All w1) w1 u v) → (¬ GH o env isF q.g → ∀ b, u ≠ .bool b) →
        wpOps P opsL.toArray Q (List.range' (is.length + 1) r.length) (a.put op.dst u) w1 := by
      intro u w1 hb hu hn
      have hI1 := (show QInv o env isF a0 (All w1) defs is a w1 from hI.move (All.below hb) fun p hp => hb.cell hp).step (hlt op (List.mem_cons_self ..) d hd) hqF u hu hn
      rw [hd]
      have := qwalk_seq ho hD r _ (is ++ [q]) (a.put (some d) u) w1 hgo (by rw [hlen]; exact hdrop') (fun op' h' => hlt op' (List.mem_cons_of_mem _ h')) hI1
        ⟨fun n v hv => let ⟨u, h1, h2⟩ := hl.1 n v hv; ⟨u, h1, h2.move (All.below hb) fun p hp => hb.cell hp⟩, hl.2.move (All.below hb) fun p hp => hb.cell hp⟩
        (fun a' w' hb' hI' => hQ a' w' (hb.trans (hb'.mono hb.size)) hI')
      rw [hlen] at this
      exact this
    split
    · rename_i hwt
      have hgh := hw.1 hwt
      rw [← hg] at hgh
      obtain ⟨v, hv⟩ := hD _ q hqF hgh
      left
      refine Outc.wp ?_
      have := node_seq ho hI hl hq hsrc hgh (fun _ _ _ _ => trivial) (fun _ _ => trivial) hv
      revert this
      generalize (execOp a.eval op).run P w = res
      intro hres
      unfold Outc at hres ⊢
      split at hres
      · exact hnext _ _ hres.1 (fun _ v' hv' => by rw [hv] at hv'; cases hv'; exact hres.2) fun hng => absurd hgh hng
      · exact hnext _ _ hres.1 (fun _ v' hv' => by rw [hv] at hv'; cases hv'; exact hres.2) fun hng => absurd hgh hng
      · refine hres.mono fun e w1 ⟨u, he, hb, hr⟩ => ⟨u, he, ?_⟩
        exact hnext _ _ hb (fun _ v' hv' => by rw [hv] at hv'; cases hv'; exact hr) fun hng => absurd hgh hng
      · exact hres.elim
    · rename_i hwt
      refine hnext undef w (Below.refl _ _) (fun hgh => absurd (hw.2 (hg ▸ hgh)) hwt) fun _ b e => ?_
      simp [undef] at e

theorem qwalk_quiet (ho : SoundO P o) {w : World} {Q : Act → Prop} (hD : ∀ (i : Nat) q, isF[i]? = some q → GH o env isF q.g → ∃ v, evalX o env q.x = some v) (hl : (∀ n v, look env n = some v → ∃ u, a0.tmps[n]? = some u ∧ Rep (All w) w u v) ∧ GOK (All w) w) :
    ∀ (r : List Oper) (defs : List (Tmp × Nat)) (is : List QI) (a : Act), qgo P true opsL r defs is = some (dF, isF) → (∀ op ∈ r, ∀ d, op.dst = some d → d < a0.tmps.size) →
    QInv o env isF a0 (All w) defs is a w → (∀ a', QInv o env isF a0 (All w) dF isF a' w → Q a') → wpQuiet P opsL.toArray (Below w.heap.size w) Q r a
  | [], defs, is, a, h, _, hI, hQ => by
    simp only [qgo, Option.some.injEq, Prod.mk.injEq] at h
    obtain ⟨rfl, rfl⟩ := h
    exact hQ a hI
  | op :: r, defs, is, a, h, hlt, hI, hQ => by
    obtain ⟨d, q, hd, hok, hq, hsrc, hgo⟩ := qgo_cons h
    obtain ⟨tl, h1, _⟩ := qgo_prefix _ _ _ _ _ hgo
    have hqF : isF[is.length]? = some q := by rw [h1, List.getElem?_append_left (by simp)]; simp
    have hg := (qnode_shape (fun t j hd => defOf_lt hI hd) hI.2.2.1 hq).2
    have hw := wanted_iff hI hD hok (fun _ _ _ => trivial)
    have hnext : ∀ (u : Value), (GH o env isF q.g → ∀ v, evalX o env q.x = some v → Rep (All w) w u v) → (¬ GH o env isF q.g → ∀ b, u ≠ .bool b) →
        wpQuiet P opsL.toArray (Below w.heap.size w) Q r (a.put op.dst u) := by
      intro u hu hn
      rw [hd]
      exact qwalk_quiet ho hD hl r _ (is ++ [q]) (a.put (some d) u) hgo (fun op' h' => hlt op' (List.mem_cons_of_mem _ h')) (hI.step (hlt op (List.mem_cons_self ..) d hd) hqF u hu hn) hQ
    simp only [wpQuiet]
    split
    · rename_i hwt
      have hgh := hw.1 hwt
      rw [← hg] at hgh
      obtain ⟨v, hv⟩ := hD _ q hqF hgh
      obtain ⟨u, hu, hrun⟩ := node_quiet ho (fun _ h => h) hI hl hq hsrc hgh hv
      exact ⟨u, fun w' hb => hrun w' hb, hnext u (fun _ v' hv' => by rw [hv] at hv'; cases hv'; exact hu) fun hng => absurd hgh hng⟩
    · rename_i hwt
      refine hnext undef (fun hgh => absurd (hw.2 (hg ▸ hgh)) hwt) fun _ b e => ?_
      simp [undef] at e

theorem rootsOf_spec {defs : List (Tmp × Nat)} {is : List QI} : ∀ {ds : List Nat} {rs : List (Nat × X)} {js : List Nat}, rootsOf defs is ds = some (rs, js) →
    (∀ p ∈ rs, p.1 ∈ ds ∧ ∃ j q, defOf defs p.1 = some j ∧ is[j]? = some q ∧ q.g = none ∧ p.2 = q.x) ∧ (∀ d ∈ ds, defOf defs d ≠ none → ∃ x, (d, x) ∈ rs) ∧ (∀ j ∈ js, ∃ d q, is[j]? = some q ∧ (d, q.x) ∈ rs)
  | [], rs, js, h => by
    simp only [rootsOf, Option.some.injEq, Prod.mk.injEq] at h
    obtain ⟨rfl, rfl⟩ := h
    exact ⟨by simp, by simp, by simp⟩
  | d :: ds, rs, js, h => by
    simp only [rootsOf] at h
    cases hr : rootsOf defs is ds with
    | none => rw [hr] at h; cases h
    | some p =>
      obtain ⟨rs', js'⟩ := p
      rw [hr] at h
      simp only [Option.bind_some] at h
      obtain ⟨h1, h2, h3⟩ := rootsOf_spec hr
      cases hd : defOf defs d with
      | none =>
        rw [hd] at h
        simp only [Option.some.injEq, Prod.mk.injEq] at h
        obtain ⟨rfl, rfl⟩ := h
        refine ⟨fun p hp => ⟨List.mem_cons_of_mem _ (h1 p hp).1, (h1 p hp).2⟩, fun d' hd' hn => ?_, h3⟩
        rcases List.mem_cons.1 hd' with rfl | hd'
        · exact absurd hd hn
        · exact h2 d' hd' hn
      | some j =>
        rw [hd] at h
        simp only at h
        cases hq : is[j]? with
        | none => rw [hq] at h; cases h
        | some q =>
          rw [hq] at h
          simp only [Option.bind_some] at h
          split at h
          · rename_i hg
            simp only [Option.some.injEq, Prod.mk.injEq] at h
            obtain ⟨rfl, rfl⟩ := h
            refine ⟨fun p hp => ?_, fun d' hd' hn => ?_, fun j' hj' => ?_⟩
            · rcases List.mem_cons.1 hp with rfl | hp
              · exact ⟨List.mem_cons_self .., j, q, hd, hq, by simpa using hg, rfl⟩
              · exact ⟨List.mem_cons_of_mem _ (h1 p hp).1, (h1 p hp).2⟩
            · rcases List.mem_cons.1 hd' with rfl | hd'
              · exact ⟨q.x, List.mem_cons_self ..⟩
              · obtain ⟨x, hx⟩ := h2 d' hd' hn; exact ⟨x, List.mem_cons_of_mem _ hx⟩
            · rcases List.mem_cons.1 hj' with rfl | hj'
              · exact ⟨d, q, hq, List.mem_cons_self ..⟩
              · obtain ⟨d', q', h4, h5⟩ := h3 j' hj'; exact ⟨d', q', h4, List.mem_cons_of_mem _ h5⟩
          · cases h

theorem putsQ_vals : ∀ {rs : List (Nat × X)} {acc env' : Env}, putsQ o env rs acc = some env' → ∀ p ∈ rs, ∃ v, evalX o env p.2 = some v ∧ v.flat1 = true
  | [], _, _, _, p, hp => by cases hp
  | q :: rs, acc, env', h, p, hp => by
    simp only [putsQ] at h
    cases hv : evalX o env q.2 with
    | none => rw [hv] at h; cases h
    | some v =>
      rw [hv] at h
      simp only [Option.bind_some] at h
      split at h
      · rcases List.mem_cons.1 hp with rfl | hp
        · exact ⟨v, hv, ‹_›⟩
        · exact putsQ_vals h p hp
      · cases h

theorem flat_smp {S : Nat → Prop} {w : World} {u : Value} {v : V} (h : Rep S w u v) : v.names = none ∧ v.isOwn = false ∧ (v.smp = true ∨ ∃ ys, v = .t ys) := by
  cases h <;> simp [V.names, V.isOwn, V.smp]

theorem putsQ_ents {Im : Nat → Prop} {w : World} {base : Nat} {T' : Tm} : ∀ {rs : List (Nat × X)} {acc env' : Env} {T : Tm}, putsQ o env rs acc = some env' → Srt acc → Ents P Im w base acc T →
    (∀ p ∈ rs, ∀ v, evalX o env p.2 = some v → ∃ u, T' p.1 = some u ∧ Rep Im w u v ∧ v.smp = true) → (∀ n x, get n acc = some x → (∃ y, (n, y) ∈ rs) ∨ T' n = T n) →
    Srt env' ∧ Ents P Im w base env' T' ∧ ∀ n x, get n env' = some x → (∃ y, (n, y) ∈ rs) ∨ ∃ x', get n acc = some x'
  | [], acc, env', T, h, hs, he, _, hT => by
    simp only [putsQ, Option.some.injEq] at h
    subst h
    exact ⟨hs, he.congr fun n x hx => (hT n x hx).resolve_left (by simp), fun n x hx => .inr ⟨x, hx⟩⟩
  | q :: rs, acc, env', T, h, hs, he, hr, hT => by
    simp only [putsQ] at h
    cases hv : evalX o env q.2 with
    | none => rw [hv] at h; cases h
    | some v =>
      rw [hv] at h
      simp only [Option.bind_some] at h
      split at h
      · obtain ⟨u, hu, hrep, hsmp⟩ := hr q (List.mem_cons_self ..) v hv
        obtain ⟨hnm, hno, _⟩ := flat_smp hrep
        have hnoT : ∀ c g, ¬ Owns (put' q.1 v acc) (fun n => if n = q.1 then some u else T n) q.1 c g := by
          intro c g ho
          cases c with
          | none =>
            obtain ⟨x, _, hx, hown, _⟩ := ho
            rw [get_put' hs, if_pos rfl] at hx
            cases hx
            rw [hno] at hown; cases hown
          | some j =>
            obtain ⟨ys, _, _, _, hx, _⟩ := ho
            rw [get_put' hs, if_pos rfl] at hx
            cases hx
            simp [V.smp] at hsmp
        have hput := he.put (T' := fun n => if n = q.1 then some u else T n) hs q.1 v u (by simp) (fun m y hm _ => by simp [hm])
          (by
            rw [Ent.res1 hsmp]
            cases v <;> first | exact hrep | (simp [V.isOwn] at hno; done) | (simp [V.smp] at hsmp; done)) (fun m hm => by rw [hnm] at hm; cases hm) (fun c g ho => absurd ho (hnoT c g)) (fun c c' g ho => absurd ho (hnoT c g))
        obtain ⟨h1, h2, h3⟩ := putsQ_ents h (hs.put' _ _) hput (fun p hp => hr p (List.mem_cons_of_mem _ hp)) (fun n x hx => by
          by_cases hn : n = q.1
          · right; subst hn; simpa using hu
          · rw [get_put' hs, if_neg hn] at hx
            have hacc : ∃ x', get n acc = some x' := by
              cases hq : get q.1 acc with
              | none => rw [hq] at hx; exact ⟨x, hx⟩
              | some z =>
                rw [hq] at hx
                simp only at hx
                cases hn' : get n acc with
                | none => rw [hn'] at hx; cases hx
                | some x' => exact ⟨x', rfl⟩
            obtain ⟨x', hx'⟩ := hacc
            rcases hT n x' hx' with ⟨y, hy⟩ | hy
            · rcases List.mem_cons.1 hy with e | hy
              · exact absurd (congrArg Prod.fst e) hn
              · exact .inl ⟨y, hy⟩
            · right; simpa [hn] using hy)
        refine ⟨h1, h2, fun n x hx => ?_⟩
        rcases h3 n x hx with ⟨y, hy⟩ | ⟨x', hx'⟩
        · exact .inl ⟨y, List.mem_cons_of_mem _ hy⟩
        · by_cases hn : n = q.1
          · left; subst hn; exact ⟨q.2, List.mem_cons_self ..⟩
          · right
            rw [get_put' hs, if_neg hn] at hx'
            cases hq : get q.1 acc with
            | none => rw [hq] at hx'; exact ⟨x', hx'⟩
            | some z =>
              rw [hq] at hx'
              simp only at hx'
              cases hn' : get n acc with
              | none => rw [hn'] at hx'; cases hx'
              | some x'' => exact ⟨x'', rfl⟩
      · cases h

theorem mem_writes {keep : List Nat} {ops : List Oper} {d : Nat} : d ∈ writes keep ops ↔ d ∈ keep ∧ ∃ op ∈ ops, op.dst = some d := by
  unfold writes
  rw [List.mem_eraseDups, List.mem_filterMap]
  constructor
  · rintro ⟨op, hop, h⟩
    cases hd : op.dst with
    | none => rw [hd] at h; cases h
    | some d' =>
      rw [hd] at h
      simp only [Option.bind_some] at h
      split at h
      · cases h; rename_i hc; exact ⟨by simpa using hc, op, hop, hd⟩
      · cases h
  · rintro ⟨hk, op, hop, hd⟩
    exact ⟨op, hop, by simp [hd, hk]⟩
theorem qgo_defs {draw : Bool} : ∀ (r : List Oper) (defs dF : List (Tmp × Nat)) (is iF : List QI), qgo P draw opsL r defs is = some (dF, iF) → ∀ t j, defOf dF t = some j → (∃ op ∈ r, op.dst = some t) ∨ ∃ j', defOf defs t = some j'
  | [], defs, dF, is, iF, h, t, j, hd => by
    simp only [qgo, Option.some.injEq, Prod.mk.injEq] at h
    exact .inr ⟨j, h.1 ▸ hd⟩
  | op :: r, defs, dF, is, iF, h, t, j, hd => by
    obtain ⟨d, q, hdst, _, _, _, hgo⟩ := qgo_cons h
    rcases qgo_defs r _ _ _ _ hgo t j hd with ⟨op', h1, h2⟩ | ⟨j', h1⟩
    · exact .inl ⟨op', List.mem_cons_of_mem _ h1, h2⟩
    · rw [defOf_cons] at h1
      split at h1
      · rename_i e; subst e; exact .inl ⟨op, List.mem_cons_self .., hdst⟩
      · exact .inr ⟨j', h1⟩
end

theorem regQ_sound {P : Program} {o : Orc} (ho : SoundO P o) (hm : P.follows .mixedOrders = true) {nt : Nat} {keep : List Nat} {S : Nat → Prop} {base : Nat} {w0 : World} {id : Nat} {ops : Array Oper} {draw : Bool} {rs : List (Nat × X)}
    (h : regQ P nt keep ops.toList draw = some rs) {env env' : Env} (hput : putsQ o env rs env = some env') {a : Act} {w : World} (hF : FI P nt keep S base w0 env a w) {Q : Exit → Act → World → Prop}
    (hQ : ∀ a' w', FI P nt keep S base w0 env' a' w' → Q .normal a' w') : (Code.region id ops draw).wp P Q a w := by
  unfold regQ at h
  cases hgo : qgo P draw ops.toList ops.toList [] [] with
  | none => rw [hgo] at h; cases h
  | some p =>
    obtain ⟨dF, isF⟩ := p
    rw [hgo] at h
    simp only [Option.bind_some] at h
    cases hro : rootsOf dF isF (writes keep ops.toList) with
    | none => rw [hro] at h; cases h
    | some p =>
      obtain ⟨rs', js⟩ := p
      rw [hro] at h
      simp only [Option.bind_some] at h
      split at h
      · rename_i hc
        cases h
        simp only [Bool.and_eq_true, Bool.or_eq_true, Bool.not_eq_true'] at hc
        obtain ⟨⟨hdem, hdraw⟩, hnt⟩ := hc
        obtain ⟨Im, hI1, hI2, hE⟩ := hF.ents
        have hIm : ∀ b, Im b → b < w.heap.size := fun b hb => (hI2 b hb).2
        have hl : (∀ n v, look env n = some v → ∃ u, a.tmps[n]? = some u ∧ Rep (All w) w u v) ∧ GOK (All w) w := ⟨fun n v hv => look_sound hE hIm hv, hE.glob.move hIm fun _ _ => rfl⟩
        have hsh := qgo_shape _ _ _ _ _ hgo (fun t j hd => by simp [defOf] at hd) (fun k q hk => by simp at hk)
        obtain ⟨hr1, hr2, hr3⟩ := rootsOf_spec hro
        have hvals := putsQ_vals hput
        have hD : ∀ (i : Nat) q, isF[i]? = some q → GH o env isF q.g → ∃ v, evalX o env q.x = some v := fun i q hq hg =>
          demanded_spec hsh hdem (fun j hj q' hq' => by
            obtain ⟨d, q2, h1, h2⟩ := hr3 j hj
            rw [hq'] at h1; cases h1
            obtain ⟨v, hv, _⟩ := hvals _ h2
            exact ⟨v, hv⟩) _ i (Nat.le_refl _) q hq hg
        have hlt : ∀ op ∈ ops.toList, ∀ d, op.dst = some d → d < a.tmps.size := fun op hop d hd => by
          have := List.all_eq_true.1 hnt op hop
          rw [hd] at this
          rw [hF.size]; simpa using this
        have hI0 : QInv o env isF a (All w) [] [] a w := ⟨rfl, rfl, fun j hj => by simp at hj, Nat.zero_le _, fun t => by simp [defOf]⟩
        have hend : ∀ (a' : Act) (w1 w' : World), Below w.heap.size w w' → QInv o env isF a (All w1) dF isF a' w1 → FI P nt keep S base w0 env' a' w' := by
          intro a' w1 w' hb hQI
          obtain ⟨h1, h2, _, _, h4⟩ := hQI
          have hE' := hE.move (w' := w') (fun _ h => h) (fun n c g ho' => (Owns.lt hE ho').2.2) (fun b hb' => hb.block b hb') hIm
          have hputs := putsQ_ents (T := fun n => a.tmps[n]?) (T' := fun n => a'.tmps[n]?) hput hF.srt hE' (fun p hp v hv => by
              obtain ⟨_, j, q, hd, hq, hg, hx⟩ := hr1 p hp
              have := h4 p.1
              rw [hd] at this
              obtain ⟨q', hq', hy, _⟩ := this
              rw [hq] at hq'; cases hq'
              rw [hx] at hv
              obtain ⟨u, hu, hr⟩ := hy trivial (by rw [hg]; exact .top) v hv
              obtain ⟨v', hv', hfl⟩ := hvals p hp
              rw [hx, hv] at hv'; cases hv'
              have hsm := (flat_smp hr).2.2
              have hflat : v.flat = true := by cases v <;> first | exact hfl | (simp [V.flat1] at hfl; done)
              refine ⟨u, hu, hr.of_flat hflat, ?_⟩
              rcases hsm with hsm | ⟨ys, rfl⟩
              · exact hsm
              · simp [V.flat1] at hfl) (fun n x hx => by
              have := h4 n
              cases hd : defOf dF n with
              | none => rw [hd] at this; exact .inr (this trivial)
              | some j =>
                left
                rcases qgo_defs _ _ _ _ _ hgo n j hd with ⟨op, hop, hdst⟩ | ⟨j', hj'⟩
                · exact hr2 n (mem_writes.2 ⟨(hF.keys n x hx).1, op, hop, hdst⟩) (by rw [hd]; simp)
                · simp [defOf] at hj')
          refine ⟨hputs.1, h1.trans hF.size, h2.trans hF.defers, hF.below.trans (hb.mono hF.bsz), (fun b hb0 => (hb.block b (hI2 b (hI1 b hb0)).2).trans (hF.kept b hb0)), Nat.le_trans hF.bsz hb.size, fun n x hx => ?_, Im, hI1, fun b hb' => ⟨(hI2 b hb').1, Nat.lt_of_lt_of_le (hIm b hb') hb.size⟩, hputs.2.1⟩
          rcases hputs.2.2 n x hx with ⟨y, hy⟩ | ⟨x', hx'⟩
          · obtain ⟨hw, _⟩ := hr1 _ hy
            obtain ⟨hk, op, hop, hdst⟩ := mem_writes.1 hw
            exact ⟨hk, by rw [← hF.size]; exact hlt op hop n hdst⟩
          · exact hF.keys n x' hx'
        cases draw with
        | false =>
          refine wp_region ?_
          have := qwalk_seq (P := P) (opsL := ops.toList) ho hD ops.toList [] [] a w hgo (by simp) hlt hI0 hl (Q := Q) fun a' w' hb hQI => hQ a' w' (hend a' w' w' hb hQI)
          simpa [List.range_eq_range'] using this
        | true =>
          have hq : quietB ops.toList = true := by simpa using hdraw
          unfold quietB at hq
          simp only [Bool.and_eq_true] at hq
          refine wp_region_quiet (C := Below w.heap.size w) hm (by simpa using hq.2) ⟨rfl, rfl, rfl, Nat.le_refl _, fun _ _ => rfl⟩ ?_
          have := qwalk_quiet (P := P) (opsL := ops.toList) (Q := fun a' => ∀ w', Below w.heap.size w w' → Q .normal a' w') ho hD hl ops.toList [] [] a hgo hlt hI0 fun a' hQI w' hb => hQ a' w' (hend a' w w' hb hQI)
          simpa using this
      · cases h
end Go.VM
/-
  A region in mode Q that draws its order and whose operations may make memory. No program is named here.
-/
namespace Go.VM
open Go.RowKit
variable [Glob]

section
variable {P : Program} {o : Orc} {env : Env} {opsL : List Oper} {isF : List QI} {a0 : Act} {dF : List (Tmp × Nat)} {draw : Bool}

def DefsOk (opsL : List Oper) (n : Nat) (defs : List (Tmp × Nat)) : Prop := ∀ t j, defOf defs t = some j → j < n ∧ (opsL[j]?).bind (·.dst) = some t
def DefsAll (opsL : List Oper) (n : Nat) (defs : List (Tmp × Nat)) : Prop := ∀ j t, j < n → (opsL[j]?).bind (·.dst) = some t → defOf defs t ≠ none
theorem DefsOk.cons {n : Nat} {defs : List (Tmp × Nat)} (h : DefsOk opsL n defs) {d : Tmp} (hd : (opsL[n]?).bind (·.dst) = some d) : DefsOk opsL (n + 1) ((d, n) :: defs) := by
  intro t j ht
  rw [defOf_cons] at ht
  split at ht
  · rename_i e; cases ht; subst e; exact ⟨by omega, hd⟩
  · have := h t j ht; exact ⟨by omega, this.2⟩
theorem DefsAll.cons {n : Nat} {defs : List (Tmp × Nat)} (h : DefsAll opsL n defs) {d : Tmp} (hd : (opsL[n]?).bind (·.dst) = some d) : DefsAll opsL (n + 1) ((d, n) :: defs) := by
  intro j t hj ht
  rw [defOf_cons]
  split
  · simp
  · rename_i hne
    by_cases hjn : j = n
    · subst hjn; rw [hd] at ht; cases ht; exact absurd rfl hne
    · exact h j t (by omega) ht
theorem qgo_at : ∀ (r : List Oper) (defs : List (Tmp × Nat)) (is iF : List QI), qgo P draw opsL r defs is = some (dF, iF) → opsL.drop is.length = r → DefsOk opsL is.length defs → DefsAll opsL is.length defs →
    (DefsOk opsL opsL.length dF ∧ DefsAll opsL opsL.length dF) ∧ ∀ (i : Nat) op, is.length ≤ i → opsL[i]? = some op → ∃ defs' d q, op.dst = some d ∧ guardOk opsL defs' op.guard = true ∧ qnode P draw defs' (iF.take i) op = some q ∧ srcsOk (iF.take i) q = true ∧ iF[i]? = some q ∧ i < iF.length ∧ DefsOk opsL i defs'
  | [], defs, is, iF, h, hdrop, h1, h2 => by
    simp only [qgo, Option.some.injEq, Prod.mk.injEq] at h
    obtain ⟨rfl, rfl⟩ := h
    have hlen : opsL.length ≤ is.length := by simpa using hdrop
    refine ⟨⟨fun t j ht => ?_, fun j t hj => h2 j t (by omega)⟩, fun i op hi ho => ?_⟩
    · have := h1 t j ht
      refine ⟨?_, this.2⟩
      cases hoj : opsL[j]? with
      | none => rw [hoj] at this; simp at this
      | some _ => exact (List.getElem?_eq_some_iff.1 hoj).1
    · have := (List.getElem?_eq_some_iff.1 ho).1
      omega
  | op :: r, defs, is, iF, h, hdrop, h1, h2 => by
    obtain ⟨d, q, hd, hok, hq, hsrc, hgo⟩ := qgo_cons h
    obtain ⟨hat, hdrop'⟩ := drop_cons hdrop
    obtain ⟨tl, htl, _⟩ := qgo_prefix _ _ _ _ _ hgo
    have hdst : (opsL[is.length]?).bind (·.dst) = some d := by rw [hat]; exact hd
    have hlen : (is ++ [q]).length = is.length + 1 := by simp
    obtain ⟨hF, hrest⟩ := qgo_at r _ (is ++ [q]) iF hgo (by rw [hlen]; exact hdrop') (by rw [hlen]; exact h1.cons hdst) (by rw [hlen]; exact h2.cons hdst)
    refine ⟨hF, fun i op' hi ho => ?_⟩
    by_cases hi' : i = is.length
    · subst hi'
      rw [hat] at ho; cases ho
      have htake : iF.take is.length = is := by rw [htl, List.append_assoc, List.take_left]
      refine ⟨defs, d, q, hd, hok, by rw [htake]; exact hq, by rw [htake]; exact hsrc, ?_, ?_, h1⟩
      · rw [htl, List.getElem?_append_left (by simp)]; simp
      · rw [htl]; simp
    · exact hrest i op' (by rw [hlen]; omega) ho

theorem orderOk_spec {is : List QI} (h : orderOk opsL is = true) {i : Nat} {op : Oper} {q : QI} (ho : opsL[i]? = some op) (hq : is[i]? = some q) :
    (∀ j ∈ aft op, j < i) ∧ (∀ s ∈ q.srcs, ∀ j, s = some j → j ∈ aft op) ∧ (∀ g b, op.guard = some (g, b) → g ∈ aft op) ∧ ∀ t ∈ slotsX q.x, ∀ (k : Nat) o', opsL[k]? = some o' → o'.dst = some t → i ∈ aft o' := by
  unfold orderOk at h
  simp only [Bool.and_eq_true] at h
  have hi := (List.getElem?_eq_some_iff.1 ho).1
  have h1 := List.all_eq_true.1 h.2 i (List.mem_range.2 hi)
  rw [ho, hq] at h1
  simp only [Bool.and_eq_true] at h1
  obtain ⟨⟨⟨h2, h3⟩, h4⟩, h5⟩ := h1
  refine ⟨fun j hj => by simpa using List.all_eq_true.1 h2 j hj, fun s hs j hj => ?_, fun g b hg => ?_, fun t ht k o' hk hd => ?_⟩
  · subst hj
    simpa using List.all_eq_true.1 h3 _ hs
  · rw [hg] at h4
    simpa using h4
  · have h6 := List.all_eq_true.1 (List.all_eq_true.1 h5 t ht) k (List.mem_range.2 (List.getElem?_eq_some_iff.1 hk).1)
    rw [hk] at h6
    simp only [Bool.or_eq_true, bne_iff_ne] at h6
    rcases h6 with h6 | h6
    · exact absurd hd h6
    · simpa using h6

def Ex1 (listed : Array Bool) : Nat → Prop := fun k => listed.getD k false = true
theorem ex1_set {listed : Array Bool} {i : Nat} (hi : i < listed.size) (k : Nat) : Ex1 (listed.setIfInBounds i true) k ↔ (k = i ∨ Ex1 listed k) := by
  unfold Ex1
  simp only [Array.getD_eq_getD_getElem?, Array.getElem?_setIfInBounds]
  by_cases h : i = k
  · subst h; simp [hi]
  · rw [if_neg h]
    constructor
    · exact .inr
    · rintro (rfl | h')
      · exact absurd rfl h
      · exact h'
theorem mem_ready {ops : Array Oper} {listed : Array Bool} (hs : listed.size = ops.size) {i : Nat} (h : i ∈ Region.ready .any ops listed) : ∃ op, ops[i]? = some op ∧ ¬ Ex1 listed i ∧ ∀ j ∈ aft op, Ex1 listed j := by
  unfold Region.ready at h
  rw [List.mem_filter] at h
  obtain ⟨h1, h2⟩ := h
  have hi : i < ops.size := List.mem_range.1 h1
  simp only [Bool.and_eq_true, Array.getElem?_eq_getElem hi, Option.map_some, Option.getD_some] at h2
  refine ⟨ops[i], Array.getElem?_eq_getElem hi, fun he => ?_, fun j hj => ?_⟩
  · have h3 := h2.1
    unfold Ex1 at he
    have hi' : i < listed.size := by omega
    simp only [Array.getD_eq_getD_getElem?, Array.getElem?_eq_getElem hi', Option.getD_some] at h3 he
    rw [he] at h3; cases h3
  · unfold aft at hj
    obtain ⟨e, he, rfl⟩ := List.mem_map.1 hj
    rw [List.mem_filter] at he
    have := Array.all_eq_true'.1 h2.2 e (by simpa using he.1)
    simp only [Bool.or_eq_true, Bool.not_eq_true'] at this
    rcases this with h | h
    · rw [he.2] at h; cases h
    · exact h
theorem not_ready {ops : Array Oper} {listed : Array Bool} (hs : listed.size = ops.size) (hacy : ∀ (i : Nat) op, ops[i]? = some op → ∀ j ∈ aft op, j < i) (h : Region.ready .any ops listed = []) : ∀ i, i < ops.size → Ex1 listed i := by
  intro i
  induction i using Nat.strongRecOn with
  | _ i ih =>
    intro hi
    cases he : listed.getD i true with
    | true =>
      unfold Ex1
      have hi' : i < listed.size := by omega
      simp only [Array.getD_eq_getD_getElem?, Array.getElem?_eq_getElem hi', Option.getD_some] at he ⊢
      exact he
    | false =>
      exfalso
      have : i ∈ Region.ready .any ops listed := by
        unfold Region.ready
        rw [List.mem_filter]
        refine ⟨List.mem_range.2 hi, ?_⟩
        rw [he, Array.getElem?_eq_getElem hi]
        simp only [Bool.not_false, Bool.true_and, Option.map_some, Option.getD_some]
        rw [Array.all_eq_true']
        intro e hem
        simp only [Bool.or_eq_true, Bool.not_eq_true']
        cases hb : Region.binds .any e with
        | false => exact .inl rfl
        | true =>
          right
          have hj : e.on ∈ aft ops[i] := by
            unfold aft
            exact List.mem_map.2 ⟨e, List.mem_filter.2 ⟨by simpa using hem, hb⟩, rfl⟩
          have := hacy i _ (Array.getElem?_eq_getElem hi) _ hj
          exact ih _ this (by omega)
      rw [h] at this; cases this

def DInv (o : Orc) (env : Env) (opsL : List Oper) (isF : List QI) (a0 : Act) (listed : Array Bool) (a : Act) (w : World) : Prop :=
  a.tmps.size = a0.tmps.size ∧ a.defers = a0.defers ∧ (∀ t, (∀ k, Ex1 listed k → (opsL[k]?).bind (·.dst) ≠ some t) → a.tmps[t]? = a0.tmps[t]?) ∧
  (∀ (k : Nat) op d q, Ex1 listed k → opsL[k]? = some op → op.dst = some d → isF[k]? = some q → (GH o env isF q.g → ∀ v, evalX o env q.x = some v → ∃ u, a.tmps[d]? = some u ∧ Rep (All w) w u v) ∧ (¬ GH o env isF q.g → ∀ b, a.tmps[d]? ≠ some (.bool b))) ∧
  ∀ (k : Nat) op, Ex1 listed k → opsL[k]? = some op → ∀ j ∈ aft op, Ex1 listed j
theorem DInv.qinv {listed : Array Bool} {a : Act} {w : World} (h : DInv o env opsL isF a0 listed a w) {defs : List (Tmp × Nat)} {n : Nat} (hd : DefsOk opsL n defs) (hn : n ≤ isF.length) :
    QInvE o env isF a0 (Ex1 listed) (fun t => ∀ k, Ex1 listed k → (opsL[k]?).bind (·.dst) ≠ some t) (All w) defs (isF.take n) a w := by
  obtain ⟨h1, h2, h3, h4, h5⟩ := h
  have hlen : (isF.take n).length = n := by simp; omega
  refine ⟨h1, h2, fun j hj => ?_, by simp; omega, fun t => ?_⟩
  · rw [hlen] at hj
    rw [List.getElem?_take, if_pos hj]
  · split
    · exact h3 t
    · rename_i j hj
      obtain ⟨hjn, hdst⟩ := hd t j hj
      have hq : isF[j]? = some isF[j] := List.getElem?_eq_getElem (by omega)
      cases ho : opsL[j]? with
      | none => rw [ho] at hdst; cases hdst
      | some op =>
        rw [ho] at hdst
        refine ⟨isF[j], by rw [List.getElem?_take, if_pos hjn]; exact hq, fun he hg v hv => (h4 j op t _ he ho hdst hq).1 hg v hv, fun he hg b => (h4 j op t _ he ho hdst hq).2 hg b⟩

theorem DInv.step {listed : Array Bool} {a : Act} {w w1 : World} (h : DInv o env opsL isF a0 listed a w) (hnd : (opsL.filterMap (·.dst)).Nodup) (hb : Below w.heap.size w w1) {i : Nat} {op : Oper} {d : Tmp} {q : QI} (hi : i < listed.size) (ho : opsL[i]? = some op) (hdst : op.dst = some d) (hq : isF[i]? = some q) (hlt : d < a0.tmps.size)
    (haft : ∀ j ∈ aft op, Ex1 listed j) (u : Value) (hu : GH o env isF q.g → ∀ v, evalX o env q.x = some v → Rep (All w1) w1 u v) (hn : ¬ GH o env isF q.g → ∀ b, u ≠ .bool b) : DInv o env opsL isF a0 (listed.setIfInBounds i true) (a.put (some d) u) w1 := by
  obtain ⟨h1, h2, h3, h4, h5⟩ := h
  have hget : ∀ t, (a.put (some d) u).tmps[t]? = if t = d then some u else a.tmps[t]? := fun t => by
    simp only [Act.put]
    by_cases ht : t = d
    · subst ht; simp [h1, hlt]
    · rw [if_neg ht, Array.getElem?_setIfInBounds, if_neg (fun e => ht e.symm)]
  have huniq : ∀ (k : Nat) op', opsL[k]? = some op' → op'.dst = some d → k = i := by
    intro k op' hk hd'
    have key : ∀ (l : List Oper) (i k : Nat) (o1 o2 : Oper), (l.filterMap (·.dst)).Nodup → l[i]? = some o1 → l[k]? = some o2 → o1.dst = some d → o2.dst = some d → k = i := by
      intro l
      induction l with
      | nil => intro i k o1 o2 _ h; simp at h
      | cons x l ih =>
        intro i k o1 o2 hnd h1 h2 hd1 hd2
        have hmem : ∀ (m : Nat) o', l[m]? = some o' → o'.dst = some d → d ∈ l.filterMap (·.dst) := fun m o' hm hd => List.mem_filterMap.2 ⟨o', List.mem_of_getElem? hm, hd⟩
        cases i with
        | zero =>
          simp at h1; subst h1
          cases k with
          | zero => rfl
          | succ k =>
            simp at h2
            rw [List.filterMap_cons, hd1] at hnd
            exact absurd (hmem k o2 h2 hd2) (List.nodup_cons.1 hnd).1
        | succ i =>
          simp at h1
          cases k with
          | zero =>
            simp at h2; subst h2
            rw [List.filterMap_cons, hd2] at hnd
            exact absurd (hmem i o1 h1 hd1) (List.nodup_cons.1 hnd).1
          | succ k =>
            simp at h2
            have hnd' : (l.filterMap (·.dst)).Nodup := by
              rw [List.filterMap_cons] at hnd
              split at hnd
              · exact hnd
              · exact (List.nodup_cons.1 hnd).2
            rw [ih i k o1 o2 hnd' h1 h2 hd1 hd2]
    exact key opsL i k op op' hnd ho hk hdst hd'
  refine ⟨by simpa [Act.put] using h1, h2, fun t ht => ?_, fun k op' d' q' he hk hd' hq' => ?_, fun k op' he hk j hj => ?_⟩
  · have htd : t ≠ d := fun e => by
      subst e
      exact ht i ((ex1_set hi i).2 (.inl rfl)) (by rw [ho]; exact hdst)
    rw [hget, if_neg htd]
    exact h3 t fun k hk => ht k ((ex1_set hi k).2 (.inr hk))
  · by_cases hki : k = i
    · subst hki
      rw [ho] at hk; cases hk
      rw [hdst] at hd'; cases hd'
      rw [hq] at hq'; cases hq'
      rw [hget, if_pos rfl]
      exact ⟨fun hg v hv => ⟨u, rfl, hu hg v hv⟩, fun hg b e => hn hg b (by simpa using e)⟩
    · have he' := ((ex1_set hi k).1 he).resolve_left hki
      have hdd : d' ≠ d := fun e => by subst e; exact hki (huniq k op' hk hd')
      rw [hget, if_neg hdd]
      obtain ⟨g1, g2⟩ := h4 k op' d' q' he' hk hd' hq'
      exact ⟨fun hg v hv => let ⟨u', hu', hr⟩ := g1 hg v hv; ⟨u', hu', hr.move (All.below hb) fun p hp => hb.cell hp⟩, g2⟩
  · rcases (ex1_set hi k).1 he with rfl | he'
    · rw [ho] at hk; cases hk
      exact (ex1_set hi j).2 (.inr (haft j hj))
    · exact (ex1_set hi j).2 (.inr (h5 k op' he' hk j hj))

def left1 (listed : Array Bool) : Nat := listed.toList.countP (fun b => !b)
theorem left1_set {listed : Array Bool} {i : Nat} (hi : i < listed.size) (h : ¬ Ex1 listed i) : left1 (listed.setIfInBounds i true) + 1 = left1 listed := by
  unfold left1 Ex1 at *
  simp only [Array.getD_eq_getD_getElem?, Array.getElem?_eq_getElem hi, Option.getD_some, Bool.not_eq_true] at h
  rw [Array.setIfInBounds, dif_pos hi, Array.toList_set]
  have key : ∀ (l : List Bool) (i : Nat) (hi : i < l.length), l[i] = false → (l.set i true).countP (fun b => !b) + 1 = l.countP (fun b => !b) := by
    intro l
    induction l with
    | nil => intro i hi; simp at hi
    | cons x l ih =>
      intro i hi hx
      cases i with
      | zero => simp at hx; subst hx; simp
      | succ i =>
        have := ih i (by simpa using hi) (by simpa using hx)
        rw [List.set_cons_succ, List.countP_cons, List.countP_cons]
        omega
  exact key listed.toList i (by simpa using hi) (by simpa using h)
theorem all_of_left {listed : Array Bool} (h : left1 listed = 0) (i : Nat) (hi : i < listed.size) : Ex1 listed i := by
  unfold left1 at h
  rw [List.countP_eq_zero] at h
  unfold Ex1
  simp only [Array.getD_eq_getD_getElem?, Array.getElem?_eq_getElem hi, Option.getD_some]
  have := h listed[i] (by simp)
  simpa using this

theorem dwalk (ho : SoundO P o) {Q : Exit → Act → World → Prop} (hD : ∀ (i : Nat) q, isF[i]? = some q → GH o env isF q.g → ∃ v, evalX o env q.x = some v) (hgo : qgo P false opsL opsL [] [] = some (dF, isF)) (hord : orderOk opsL isF = true) (hlt : ∀ op ∈ opsL, ∀ d, op.dst = some d → d < a0.tmps.size) :
    ∀ (fuel : Nat) (listed : Array Bool) (a : Act) (w : World), listed.size = opsL.length → left1 listed ≤ fuel → DInv o env opsL isF a0 listed a w → ((∀ n v, look env n = some v → ∃ u, a0.tmps[n]? = some u ∧ Rep (All w) w u v) ∧ GOK (All w) w) →
      (∀ (listed : Array Bool) a' w', (∀ i, i < opsL.length → Ex1 listed i) → Below w.heap.size w w' → DInv o env opsL isF a0 listed a' w' → Q .normal a' w') → wpAny P .any opsL.toArray Q fuel listed a w := by
  have hat := (qgo_at opsL [] [] isF hgo (by simp) (fun t j h => by simp [defOf] at h) (fun j t h => by simp at h)).2
  have hacy : ∀ (i : Nat) op, opsL.toArray[i]? = some op → ∀ j ∈ aft op, j < i := by
    intro i op hop
    have hop' : opsL[i]? = some op := by simpa using hop
    obtain ⟨_, _, q, _, _, _, _, hq, _⟩ := hat i op (Nat.zero_le _) hop'
    exact (orderOk_spec hord hop' hq).1
  have hnd : (opsL.filterMap (·.dst)).Nodup := by
    unfold orderOk at hord
    simp only [Bool.and_eq_true, decide_eq_true_eq] at hord
    exact hord.1
  intro fuel
  induction fuel with
  | zero =>
    intro listed a w hs hleft hI hl hQ
    have hall : ∀ i, i < opsL.length → Ex1 listed i := fun i hi => all_of_left (by omega) i (by omega)
    refine ⟨?_, hQ listed a w hall (Below.refl _ _) hI⟩
    cases hr : Region.ready .any opsL.toArray listed with
    | nil => rfl
    | cons i r =>
      obtain ⟨op, hop, hne, _⟩ := mem_ready (by simpa using hs) (show i ∈ Region.ready .any opsL.toArray listed by rw [hr]; exact List.mem_cons_self ..)
      exact absurd (hall i (by have := (Array.getElem?_eq_some_iff.1 hop).1; simpa using this)) hne
  | succ fuel ih =>
    intro listed a w hs hleft hI hl hQ
    refine ⟨fun hr => hQ listed a w (fun i hi => not_ready (by simpa using hs) hacy hr i (by simpa using hi)) (Below.refl _ _) hI, fun i hi => ?_⟩
    obtain ⟨op, hop, hne, haft⟩ := mem_ready (by simpa using hs) hi
    have hop' : opsL[i]? = some op := by simpa using hop
    have hil : i < opsL.length := (List.getElem?_eq_some_iff.1 hop').1
    have his : i < listed.size := by omega
    obtain ⟨defs, d, q, hd, hok, hq, hsrc, hqF, hiF, hdefs⟩ := hat i op (Nat.zero_le _) hop'
    obtain ⟨_, hsrcs, hgrd, hslots⟩ := orderOk_spec hord hop' hqF
    have hlen : (isF.take i).length = i := by simp; omega
    have hQI := hI.qinv hdefs (by omega)
    have hg := (qnode_shape (isF := isF) (fun t j hd => by rw [hlen]; exact (hdefs t j hd).1) (fun j hj => by rw [hlen] at hj; rw [List.getElem?_take, if_pos hj]) hq).2
    have hw := wanted_iff hQI hD hok (fun g b hgb => haft g (hgrd g b hgb))
    have hE : ∀ s ∈ q.srcs, ∀ j, s = some j → Ex1 listed j := fun s hs' j hj => haft j (hsrcs s hs' j hj)
    have hR : ∀ t ∈ slotsX q.x, ∀ k, Ex1 listed k → (opsL[k]?).bind (·.dst) ≠ some t := by
      intro t ht k hk e
      cases hok' : opsL[k]? with
      | none => rw [hok'] at e; cases e
      | some o' =>
        rw [hok'] at e
        exact hne (hI.2.2.2.2 k o' hk hok' i (hslots t ht k o' hok' e))
    have next : ∀ (u : Value) (w1 : World), Below w.heap.size w w1 → (GH o env isF q.g → ∀ v, evalX o env q.x = some v → Rep (All w1) w1 u v) → (¬ GH o env isF q.g → ∀ b, u ≠ .bool b) →
        wpAny P .any opsL.toArray Q fuel (listed.setIfInBounds i true) (a.put op.dst u) w1 := by
      intro u w1 hb hu hn
      rw [hd]
      refine ih _ _ _ (by simpa using hs) ?_ (hI.step hnd hb his hop' hd hqF (hlt op (List.mem_of_getElem? hop') d hd) haft u hu hn) ⟨fun n v hv => let ⟨u, h1, h2⟩ := hl.1 n v hv; ⟨u, h1, h2.move (All.below hb) fun p hp => hb.cell hp⟩, hl.2.move (All.below hb) fun p hp => hb.cell hp⟩
        (fun l a' w' hall hb' hI' => hQ l a' w' hall (hb.trans (hb'.mono hb.size)) hI')
      have := left1_set his hne
      omega
    unfold wpOp
    rw [hop]
    simp only
    split
    · rename_i hwt
      have hgh := hw.1 hwt
      rw [← hg] at hgh
      obtain ⟨v, hv⟩ := hD _ q hqF hgh
      left
      refine Outc.wp ?_
      have := node_seq ho hQI hl hq hsrc hgh hE hR hv
      revert this
      generalize (execOp a.eval op).run P w = res
      intro hres
      unfold Outc at hres ⊢
      split at hres
      · exact next _ _ hres.1 (fun _ v' hv' => by rw [hv] at hv'; cases hv'; exact hres.2) fun hng => absurd hgh hng
      · exact next _ _ hres.1 (fun _ v' hv' => by rw [hv] at hv'; cases hv'; exact hres.2) fun hng => absurd hgh hng
      · refine hres.mono fun e w1 ⟨u, he, hb, hr⟩ => ⟨u, he, ?_⟩
        exact next _ _ hb (fun _ v' hv' => by rw [hv] at hv'; cases hv'; exact hr) fun hng => absurd hgh hng
      · exact hres.elim
    · rename_i hwt
      refine next undef w (Below.refl _ _) (fun hgh => absurd (hw.2 (hg ▸ hgh)) hwt) fun _ b e => ?_
      simp [undef] at e
end
theorem regD_sound {P : Program} {o : Orc} (ho : SoundO P o) (hm : P.follows .mixedOrders = true) {nt : Nat} {keep : List Nat} {S : Nat → Prop} {base : Nat} {w0 : World} {id : Nat} {ops : Array Oper} {rs : List (Nat × X)}
    (h : regD P nt keep ops.toList = some rs) {env env' : Env} (hput : putsQ o env rs env = some env') {a : Act} {w : World} (hF : FI P nt keep S base w0 env a w) {Q : Exit → Act → World → Prop}
    (hQ : ∀ a' w', FI P nt keep S base w0 env' a' w' → Q .normal a' w') : (Code.region id ops true).wp P Q a w := by
  unfold regD at h
  cases hgo : qgo P false ops.toList ops.toList [] [] with
  | none => rw [hgo] at h; cases h
  | some p =>
    obtain ⟨dF, isF⟩ := p
    rw [hgo] at h
    simp only [Option.bind_some] at h
    cases hro : rootsOf dF isF (writes keep ops.toList) with
    | none => rw [hro] at h; cases h
    | some p =>
      obtain ⟨rs', js⟩ := p
      rw [hro] at h
      simp only [Option.bind_some] at h
      split at h
      · rename_i hc
        cases h
        simp only [Bool.and_eq_true] at hc
        obtain ⟨⟨hdem, hord⟩, hnt⟩ := hc
        obtain ⟨Im, hI1, hI2, hE⟩ := hF.ents
        have hIm : ∀ b, Im b → b < w.heap.size := fun b hb => (hI2 b hb).2
        have hl : (∀ n v, look env n = some v → ∃ u, a.tmps[n]? = some u ∧ Rep (All w) w u v) ∧ GOK (All w) w := ⟨fun n v hv => look_sound hE hIm hv, hE.glob.move hIm fun _ _ => rfl⟩
        have hsh := qgo_shape _ _ _ _ _ hgo (fun t j hd => by simp [defOf] at hd) (fun k q hk => by simp at hk)
        obtain ⟨hr1, hr2, hr3⟩ := rootsOf_spec hro
        have hvals := putsQ_vals hput
        have hD : ∀ (i : Nat) q, isF[i]? = some q → GH o env isF q.g → ∃ v, evalX o env q.x = some v := fun i q hq hg =>
          demanded_spec hsh hdem (fun j hj q' hq' => by
            obtain ⟨d, q2, h1, h2⟩ := hr3 j hj
            rw [hq'] at h1; cases h1
            obtain ⟨v, hv, _⟩ := hvals _ h2
            exact ⟨v, hv⟩) _ i (Nat.le_refl _) q hq hg
        have hlt : ∀ op ∈ ops.toList, ∀ d, op.dst = some d → d < a.tmps.size := fun op hop d hd => by
          have := List.all_eq_true.1 hnt op hop
          rw [hd] at this
          rw [hF.size]; simpa using this
        have hend : ∀ (a' : Act) (w1 w' : World), Below w.heap.size w w' → QInv o env isF a (All w1) dF isF a' w1 → FI P nt keep S base w0 env' a' w' := by
          intro a' w1 w' hb hQI
          obtain ⟨h1, h2, _, _, h4⟩ := hQI
          have hE' := hE.move (w' := w') (fun _ h => h) (fun n c g ho' => (Owns.lt hE ho').2.2) (fun b hb' => hb.block b hb') hIm
          have hputs := putsQ_ents (T := fun n => a.tmps[n]?) (T' := fun n => a'.tmps[n]?) hput hF.srt hE' (fun p hp v hv => by
              obtain ⟨_, j, q, hd, hq, hg, hx⟩ := hr1 p hp
              have := h4 p.1
              rw [hd] at this
              obtain ⟨q', hq', hy, _⟩ := this
              rw [hq] at hq'; cases hq'
              rw [hx] at hv
              obtain ⟨u, hu, hr⟩ := hy trivial (by rw [hg]; exact .top) v hv
              obtain ⟨v', hv', hfl⟩ := hvals p hp
              rw [hx, hv] at hv'; cases hv'
              have hsm := (flat_smp hr).2.2
              have hflat : v.flat = true := by cases v <;> first | exact hfl | (simp [V.flat1] at hfl; done)
              refine ⟨u, hu, hr.of_flat hflat, ?_⟩
              rcases hsm with hsm | ⟨ys, rfl⟩
              · exact hsm
              · simp [V.flat1] at hfl) (fun n x hx => by
              have := h4 n
              cases hd : defOf dF n with
              | none => rw [hd] at this; exact .inr (this trivial)
              | some j =>
                left
                rcases qgo_defs _ _ _ _ _ hgo n j hd with ⟨op, hop, hdst⟩ | ⟨j', hj'⟩
                · exact hr2 n (mem_writes.2 ⟨(hF.keys n x hx).1, op, hop, hdst⟩) (by rw [hd]; simp)
                · simp [defOf] at hj')
          refine ⟨hputs.1, h1.trans hF.size, h2.trans hF.defers, hF.below.trans (hb.mono hF.bsz), (fun b hb0 => (hb.block b (hI2 b (hI1 b hb0)).2).trans (hF.kept b hb0)), Nat.le_trans hF.bsz hb.size, fun n x hx => ?_, Im, hI1, fun b hb' => ⟨(hI2 b hb').1, Nat.lt_of_lt_of_le (hIm b hb') hb.size⟩, hputs.2.1⟩
          rcases hputs.2.2 n x hx with ⟨y, hy⟩ | ⟨x', hx'⟩
          · obtain ⟨hw, _⟩ := hr1 _ hy
            obtain ⟨hk, op, hop, hdst⟩ := mem_writes.1 hw
            exact ⟨hk, by rw [← hF.size]; exact hlt op hop n hdst⟩
          · exact hF.keys n x' hx'
        have hat := qgo_at ops.toList [] [] isF hgo (by simp) (fun t j h => by simp [defOf] at h) (fun j t h => by simp at h)
        have hlenF : isF.length = ops.toList.length := by
          obtain ⟨tl, h1, h2⟩ := qgo_prefix _ _ _ _ _ hgo
          rw [h1]; simpa using h2
        refine wp_region_any hm ?_
        have hb0 : Below w.heap.size w { w with drawn := w.drawn + 1 } := ⟨rfl, rfl, rfl, Nat.le_refl _, fun _ _ => rfl⟩
        have hn1 : ∀ k, ¬ Ex1 (Array.replicate ops.size false) k := fun k hk => by
          unfold Ex1 at hk
          simp only [Array.getD_eq_getD_getElem?, Array.getElem?_replicate] at hk
          split at hk <;> simp at hk
        have hI0 : DInv o env ops.toList isF a (Array.replicate ops.size false) a { w with drawn := w.drawn + 1 } :=
          ⟨rfl, rfl, fun _ _ => rfl, fun k _ _ _ hk => absurd hk (hn1 k), fun k _ hk => absurd hk (hn1 k)⟩
        have hleft : left1 (Array.replicate ops.size false) ≤ ops.size := by
          unfold left1
          exact Nat.le_trans (List.countP_le_length ..) (by simp)
        have := dwalk (P := P) (opsL := ops.toList) (Q := Q) ho hD hgo hord hlt ops.size (Array.replicate ops.size false) a { w with drawn := w.drawn + 1 } (by simp) hleft hI0
          ⟨fun n v hv => let ⟨u, h1, h2⟩ := hl.1 n v hv; ⟨u, h1, h2.move (fun b hb => hb) fun p hp => rfl⟩, hl.2.move (fun b hb => hb) fun p hp => rfl⟩
          (fun listed a' w' hall hb hI => hQ a' w' (hend a' w' w' (hb0.trans (hb.mono hb0.size)) (by
            have hq := hI.qinv (hat.1.1) (by omega)
            rw [← hlenF, List.take_length] at hq
            obtain ⟨q1, q2, q3, q4, q5⟩ := hq
            refine ⟨q1, q2, q3, q4, fun t => ?_⟩
            have q6 := q5 t
            split at q6
            · rename_i hdn
              intro _
              refine q6 fun k hk e => ?_
              cases hok : ops.toList[k]? with
              | none => rw [hok] at e; cases e
              | some op' => exact hat.1.2 k t (List.getElem?_eq_some_iff.1 hok).1 e hdn
            · rename_i j hdj
              obtain ⟨q, hq, hy, hn⟩ := q6
              have hj := hall j (hat.1.1 t j hdj).1
              exact ⟨q, hq, fun _ => hy hj, fun _ => hn hj⟩)))
        simpa using this
      · cases h
end Go.VM
