/-
  One operation of a quiet region. No program is named here.
-/
import Derived.Test.YtonibcnbcnibeaaVm7
namespace Go.VM
open Go.RowKit

section
variable {P : Program} {o : Orc} {env : Env} {isF : List QI} {a0 : Act} {S : Nat → Prop} {defs : List (Tmp × Nat)} {is : List QI} {a : Act} {w : World}

theorem uniq_flat : ∀ (x : V), x.uniq = true → x.flat = true := by
  intro x
  have key : ∀ (n : Nat) (x : V), SizeOf.sizeOf x < n → x.uniq = true → x.flat = true := by
    intro n
    induction n with
    | zero => intro x h; omega
    | succ n ih =>
      intro x hn hx
      cases x with
      | a cs =>
        simp only [V.uniq, V.flat] at hx ⊢
        rw [V.uniqs_iff] at hx
        rw [V.flats_iff]
        intro y hy
        exact ih y (by have := List.sizeOf_lt_of_mem hy; simp at hn; omega) (hx y hy)
      | t cs =>
        simp only [V.uniq, V.flat] at hx ⊢
        rw [V.uniqs_iff] at hx
        rw [V.flats_iff]
        intro y hy
        exact ih y (by have := List.sizeOf_lt_of_mem hy; simp at hn; omega) (hx y hy)
      | _ => simp_all [V.uniq, V.flat]
  exact key _ x (Nat.lt_succ_self _)
theorem uniq_frz (x : V) (h : x.uniq = true) : frz x = x := by cases x <;> simp_all [V.uniq, frz]
theorem uniq_frzt (x : V) (h : x.uniq = true) : frzt x = x := by
  cases x with
  | t ys =>
    simp only [V.uniq] at h
    rw [V.uniqs_iff] at h
    simp only [frzt]
    congr 1
    rw [List.map_congr_left (g := id) fun y hy => uniq_frz y (h y hy)]
    simp
  | _ => simp_all [V.uniq, frzt, frz]

/-- The operands' values. -/
theorem node_vals {draw : Bool} (h : QInv o env isF a0 S defs is a w) (hl : ∀ n v, look env n = some v → ∃ u, a0.tmps[n]? = some u ∧ Rep S w u v) {op : Oper} {q : QI} (hq : qnode P draw defs is op = some q)
    (hsrc : srcsOk is q = true) (hg : GH o env isF q.g) {v : V} (hv : evalX o env q.x = some v) :
    (∃ u, Rep S w u v ∧ ∀ w', (execOp a.eval op).run P w' = .ok (.value u) w') ∨
    (∃ p p' xs vs, qop P op.op = some (p, xs) ∧ drawOp draw p = some p' ∧ Reps S w (xs.map a.eval) vs ∧ opQ o p' vs = some v) := by
  have hpre : ∀ (c : Nat) q, is[c]? = some q → isF[c]? = some q := fun c q' hc => (h.2.2.1 c (List.getElem?_eq_some_iff.1 hc).1).symm.trans hc
  have hok : ∀ s, srcOk is q.g s = true → ∀ j q', s = some j → is[j]? = some q' → GH o env isF q'.g := by
    intro s hs j q' hj hq'
    subst hj
    simp only [srcOk, hq'] at hs
    exact ancG_spec hpre 100 q.g q'.g hs hg
  unfold qnode at hq
  unfold srcsOk at hsrc
  split at hq
  · rename_i c x y hop
    left
    cases hc : opnd defs is c with
    | none => rw [hc] at hq; cases hq
    | some c' =>
      rw [hc] at hq
      simp only [Option.bind_some] at hq
      cases hx : opnd defs is x with
      | none => rw [hx] at hq; cases hq
      | some x' =>
        rw [hx] at hq
        simp only [Option.bind_some] at hq
        cases hy : opnd defs is y with
        | none => rw [hy] at hq; cases hq
        | some y' =>
          rw [hy] at hq
          simp only [Option.bind_some, Option.some.injEq] at hq
          subst hq
          simp only [if_true, Bool.and_eq_true] at hsrc
          obtain ⟨⟨h1, h2⟩, h3⟩ := hsrc
          simp only [evalX] at hv
          cases hcv : evalX o env c'.2 with
          | none => rw [hcv] at hv; cases hv
          | some vc =>
            rw [hcv] at hv
            simp only [Option.bind_some] at hv
            have rc := opnd_val h hl (s := c'.1) (X := c'.2) (by simpa using hc) hcv (hok _ h1)
            have branch : ∀ (b : Bool) (z : Operand) (z' : Option Nat × X), opnd defs is z = some z' → srcOk1 is op.guard c'.1 b z'.1 = true → evalX o env c'.2 = some (.b b) → evalX o env z'.2 = some v → Rep S w (a.eval z) v := by
              intro b z z' hz hs hb hzv
              refine opnd_val h hl (s := z'.1) (X := z'.2) (by simpa using hz) hzv fun j q' hj hq' => ?_
              unfold srcOk1 at hs
              rw [Bool.or_eq_true] at hs
              rcases hs with hs | hs
              · exact hok _ hs j q' hj hq'
              · cases hc1 : c'.1 with
                | none => rw [hc1] at hs; cases hs
                | some ci =>
                  rw [hc1, hj] at hs
                  simp only [hq', beq_iff_eq] at hs
                  rw [hs]
                  obtain ⟨qc, hqc, hXc⟩ := opnd_src (fun _ _ hd => defOf_lt h hd) h.2.2.1 (x := c) (j := ci) (X := c'.2) (by rw [hc, ← hc1])
                  have hqc' : is[ci]? = some qc := by
                    have hlt : ci < is.length := by
                      rw [hc1] at h1
                      simp only [srcOk] at h1
                      cases hci : is[ci]? with
                      | none => rw [hci] at h1; cases h1
                      | some _ => exact (List.getElem?_eq_some_iff.1 hci).1
                    rw [h.2.2.1 ci hlt]; exact hqc
                  exact .dn ci b qc hqc (hok _ h1 ci qc hc1 hqc') (hXc ▸ hb)
            cases vc with
            | b t =>
              have e : a.eval c = .bool t := by generalize a.eval c = z at rc; cases rc; rfl
              cases t with
              | true =>
                simp only [if_true] at hv
                exact ⟨a.eval x, branch true x x' hx h2 hcv hv, fun w' => by simp [execOp, hop, e, asBool]⟩
              | false =>
                simp only [Bool.false_eq_true, if_false] at hv
                exact ⟨a.eval y, branch false y y' hy h3 hcv hv, fun w' => by simp [execOp, hop, e, asBool]⟩
            | _ => cases hv
  · rename_i x hop
    left
    cases hx : opnd defs is x with
    | none => rw [hx] at hq; cases hq
    | some y =>
      rw [hx] at hq
      simp only [Option.bind_some, Option.some.injEq] at hq
      subst hq
      simp only [(by decide : ¬ (2 = 1)), if_false, List.all_cons, List.all_nil, Bool.and_true] at hsrc
      exact ⟨a.eval x, opnd_val h hl (s := y.1) (X := y.2) (by simpa using hx) hv (hok _ hsrc), fun w' => by simp [execOp, hop]⟩
  · rename_i x hop
    left
    cases hx : opnd defs is x with
    | none => rw [hx] at hq; cases hq
    | some y =>
      rw [hx] at hq
      simp only [Option.bind_some, Option.some.injEq] at hq
      subst hq
      simp only [(by decide : ¬ (2 = 1)), if_false, List.all_cons, List.all_nil, Bool.and_true] at hsrc
      exact ⟨a.eval x, opnd_val h hl (s := y.1) (X := y.2) (by simpa using hx) hv (hok _ hsrc), fun w' => by simp [execOp, hop]⟩
  · right
    cases hp : qop P op.op with
    | none => rw [hp] at hq; cases hq
    | some p =>
      rw [hp] at hq
      simp only [Option.bind_some] at hq
      cases hd : drawOp draw p.1 with
      | none => rw [hd] at hq; cases hq
      | some p' =>
        rw [hd] at hq
        simp only [Option.bind_some] at hq
        cases hy : opnds defs is p.2 with
        | none => rw [hy] at hq; cases hq
        | some ys =>
          rw [hy] at hq
          simp only [Option.bind_some, Option.some.injEq] at hq
          subst hq
          simp only [(by decide : ¬ (0 = 1)), if_false] at hsrc
          simp only [evalX] at hv
          cases he : evalXs o env (ys.map (·.2)) with
          | none => rw [he] at hv; cases hv
          | some vs =>
            rw [he] at hv
            simp only [Option.bind_some] at hv
            refine ⟨p.1, p', p.2, vs, rfl, hd, opnds_vals h hl hy he fun y hy' j q' hj hq' => ?_, hv⟩
            exact hok y.1 (List.all_eq_true.1 hsrc _ (List.mem_map.2 ⟨y, hy', rfl⟩)) j q' hj hq'
end
end Go.VM
