/-
  A region of quiet operations, in the text's order or in any. No program is named here.
-/
import Derived.Test.YtonibcnbcnibeaaVm6f
import Derived.Deep.Quiet
namespace Go.VM
open Go.RowKit

/-- A guard lets through. -/
inductive GH (o : Orc) (env : Env) (is : List QI) : Option (Nat × Bool) → Prop
  | top : GH o env is none
  | dn (c : Nat) (b : Bool) (q : QI) (h : is[c]? = some q) (hg : GH o env is q.g) (hv : evalX o env q.x = some (.b b)) : GH o env is (some (c, b))

section
variable {P : Program} {o : Orc} {env : Env} {is : List QI}

theorem ancG_spec {isF : List QI} (hpre : ∀ (c : Nat) q, is[c]? = some q → isF[c]? = some q) : ∀ (n : Nat) (gi gj : Option (Nat × Bool)), ancG is n gi gj = true → GH o env isF gi → GH o env isF gj
  | 0, gi, gj, h, _ => by simp only [ancG, beq_iff_eq] at h; subst h; exact .top
  | n + 1, gi, gj, h, hi => by
    simp only [ancG, Bool.or_eq_true, beq_iff_eq] at h
    rcases h with (rfl | rfl) | h
    · exact .top
    · exact hi
    · cases hi with
      | top => simp at h
      | dn c b q hq hg hv =>
        cases hc : is[c]? with
        | none => simp [hc] at h
        | some C =>
          have := hpre c C hc
          rw [hq] at this; cases this
          simp only [hc] at h
          exact ancG_spec hpre n q.g gj h hg

/-- The shape of an operation's expression. -/
def Shape (is : List QI) (q : QI) : Prop :=
  (q.kind = 0 → ∃ p xs, q.x = .op p xs ∧ xs.length = q.srcs.length ∧ ∀ (i : Nat) j, q.srcs[i]? = some (some j) → ∃ q', is[j]? = some q' ∧ xs[i]? = some q'.x) ∧
  (q.kind = 1 → ∃ c a b sc sa sb, q.x = .ite c a b ∧ q.srcs = [sc, sa, sb] ∧ (∀ j, sc = some j → ∃ q', is[j]? = some q' ∧ c = q'.x) ∧ (∀ j, sa = some j → ∃ q', is[j]? = some q' ∧ a = q'.x) ∧ (∀ j, sb = some j → ∃ q', is[j]? = some q' ∧ b = q'.x)) ∧
  (q.kind ≠ 0 → q.kind ≠ 1 → ∃ s, q.srcs = [s] ∧ ∀ j, s = some j → ∃ q', is[j]? = some q' ∧ q.x = q'.x)

theorem evalXs_at : ∀ {xs : List X} {vs : List V}, evalXs o env xs = some vs → vs.length = xs.length ∧ ∀ (i : Nat) x, xs[i]? = some x → ∃ v, vs[i]? = some v ∧ evalX o env x = some v
  | [], vs, h => by simp only [evalXs, Option.some.injEq] at h; subst h; exact ⟨rfl, by simp⟩
  | x :: xs, vs, h => by
    simp only [evalXs] at h
    cases hx : evalX o env x with
    | none => rw [hx] at h; cases h
    | some v =>
      rw [hx] at h
      simp only [Option.bind_some] at h
      cases hxs : evalXs o env xs with
      | none => rw [hxs] at h; cases h
      | some r =>
        rw [hxs] at h
        simp only [Option.bind_some, Option.some.injEq] at h
        subst h
        obtain ⟨h1, h2⟩ := evalXs_at hxs
        refine ⟨by simp [h1], fun i y hy => ?_⟩
        cases i with
        | zero => simp at hy; subst hy; exact ⟨v, rfl, hx⟩
        | succ i => simp at hy; obtain ⟨u, hu, he⟩ := h2 i y hy; exact ⟨u, by simpa using hu, he⟩

/-- Where the roots give something, every operation that is carried out does. -/
theorem demanded_spec (hsh : ∀ (k : Nat) q, is[k]? = some q → Shape is q) {roots : List Nat} (hd : demanded is roots = true) (hr : ∀ j ∈ roots, ∀ q, is[j]? = some q → ∃ v, evalX o env q.x = some v) :
    ∀ (m i : Nat), is.length - i ≤ m → ∀ q, is[i]? = some q → GH o env is q.g → ∃ v, evalX o env q.x = some v := by
  intro m
  induction m with
  | zero =>
    intro i hi q hq _
    have := (List.getElem?_eq_some_iff.1 hq).1
    omega
  | succ m ih =>
    intro i hi q hq hg
    have hil := (List.getElem?_eq_some_iff.1 hq).1
    unfold demanded at hd
    have h1 := List.all_eq_true.1 hd i (List.mem_range.2 hil)
    simp only [Bool.or_eq_true, List.contains_eq_mem, decide_eq_true_eq, List.any_eq_true, List.mem_range, Bool.and_eq_true] at h1
    rcases h1 with h1 | ⟨k, hk, hik, hf⟩
    · exact hr i h1 q hq
    · have hK : is[k]? = some is[k] := List.getElem?_eq_getElem hk
      have hkm : is.length - k ≤ m := by omega
      obtain ⟨s0, s1, s2⟩ := hsh k _ hK
      unfold feeds at hf
      rw [hq, hK] at hf
      simp only at hf
      generalize is[k] = K at hf hK s0 s1 s2
      by_cases h1 : K.kind = 1
      · rw [if_pos h1] at hf
        obtain ⟨c, a, b, sc, sa, sb, hx, hsr, hc, ha, hb⟩ := s1 h1
        rw [hsr] at hf
        simp only [Bool.or_eq_true, Bool.and_eq_true, beq_iff_eq] at hf
        have strict : GH o env is K.g → ∃ v, evalX o env K.x = some v := fun hg => ih k hkm K hK hg
        rcases hf with ⟨rfl, hgg⟩ | hf
        · obtain ⟨v, hv⟩ := strict (hgg ▸ hg)
          obtain ⟨q', hq', rfl⟩ := hc i rfl
          rw [hq] at hq'; cases hq'
          rw [hx] at hv
          simp only [evalX] at hv
          cases he : evalX o env q.x with
          | none => rw [he] at hv; cases hv
          | some u => exact ⟨u, rfl⟩
        · cases sc with
          | none => cases hf
          | some j =>
            simp only [Bool.and_eq_true, Bool.or_eq_true, beq_iff_eq] at hf
            obtain ⟨hf, hJ⟩ := hf
            obtain ⟨q', hq', rfl⟩ := hc j rfl
            rw [hq'] at hJ
            simp only [beq_iff_eq] at hJ
            rcases hf with ⟨rfl, hgi⟩ | ⟨rfl, hgi⟩
            · rw [hgi] at hg
              cases hg with
              | dn _ _ q2 h2 hg2 hv2 =>
                rw [hq'] at h2; cases h2
                obtain ⟨v, hv⟩ := strict (hJ ▸ hg2)
                obtain ⟨q3, hq3, rfl⟩ := ha i rfl
                rw [hq] at hq3; cases hq3
                rw [hx] at hv
                simp only [evalX, hv2, Option.bind_some, if_true] at hv
                exact ⟨v, hv⟩
            · rw [hgi] at hg
              cases hg with
              | dn _ _ q2 h2 hg2 hv2 =>
                rw [hq'] at h2; cases h2
                obtain ⟨v, hv⟩ := strict (hJ ▸ hg2)
                obtain ⟨q3, hq3, rfl⟩ := hb i rfl
                rw [hq] at hq3; cases hq3
                rw [hx] at hv
                simp only [evalX, hv2, Option.bind_some, Bool.false_eq_true, if_false] at hv
                exact ⟨v, hv⟩
      · rw [if_neg h1] at hf
        simp only [Bool.and_eq_true, List.contains_eq_mem, decide_eq_true_eq, beq_iff_eq] at hf
        obtain ⟨hmem, hgg⟩ := hf
        obtain ⟨v, hv⟩ := ih k hkm K hK (hgg ▸ hg)
        obtain ⟨pos, hpos⟩ := List.mem_iff_getElem?.1 hmem
        by_cases h0 : K.kind = 0
        · obtain ⟨p, xs, hx, hl, hs⟩ := s0 h0
          obtain ⟨q', hq', hxp⟩ := hs pos i hpos
          rw [hq] at hq'; cases hq'
          rw [hx] at hv
          simp only [evalX] at hv
          cases he : evalXs o env xs with
          | none => rw [he] at hv; cases hv
          | some us =>
            obtain ⟨u, _, hu⟩ := (evalXs_at he).2 pos _ hxp
            exact ⟨u, hu⟩
        · obtain ⟨s, hsr, hs⟩ := s2 h0 h1
          rw [hsr] at hpos
          cases pos with
          | zero =>
            simp only [List.getElem?_cons_zero, Option.some.injEq] at hpos
            obtain ⟨q', hq', hx⟩ := hs i hpos
            rw [hq] at hq'; cases hq'
            exact ⟨v, hx ▸ hv⟩
          | succ pos => simp at hpos
end

section
variable (o : Orc) (env : Env) (isF : List QI) (a0 : Act)
/-- What holds of a frame in the midst of a region: written slots hold what their expressions give. -/
def QInv (S : Nat → Prop) (defs : List (Tmp × Nat)) (is : List QI) (a : Act) (w : World) : Prop :=
  a.tmps.size = a0.tmps.size ∧ a.defers = a0.defers ∧ (∀ j, j < is.length → is[j]? = isF[j]?) ∧ is.length ≤ isF.length ∧ ∀ t, match defOf defs t with
    | none => a.tmps[t]? = a0.tmps[t]?
    | some j => ∃ q, is[j]? = some q ∧ (GH o env isF q.g → ∀ v, evalX o env q.x = some v → ∃ u, a.tmps[t]? = some u ∧ Rep S w u v) ∧ (¬ GH o env isF q.g → ∀ b, a.tmps[t]? ≠ some (.bool b))
end

section
variable {P : Program} {o : Orc} {env : Env} {isF : List QI} {a0 : Act} {S : Nat → Prop} {defs : List (Tmp × Nat)} {is : List QI} {a : Act} {w : World}

theorem QInv.move {S' : Nat → Prop} {w' : World} (h : QInv o env isF a0 S defs is a w) (hS : ∀ b, S b → S' b) (hw : ∀ p : Addr, S p.block → w'.cell? p = w.cell? p) : QInv o env isF a0 S' defs is a w' := by
  obtain ⟨h1, h2, h3, h3', h4⟩ := h
  refine ⟨h1, h2, h3, h3', fun t => ?_⟩
  have := h4 t
  split at this
  · exact this
  · rename_i j hd
    obtain ⟨q, hq, hy, hn⟩ := this
    exact ⟨q, hq, fun hg v hv => let ⟨u, hu, hr⟩ := hy hg v hv; ⟨u, hu, hr.move hS hw⟩, hn⟩

/-- An operand's value. -/
theorem opnd_val (h : QInv o env isF a0 S defs is a w) (hl : ∀ n v, look env n = some v → ∃ u, a0.tmps[n]? = some u ∧ Rep S w u v) {x : Operand} {s : Option Nat} {X : X} (hx : opnd defs is x = some (s, X)) {v : V} (hv : evalX o env X = some v)
    (hs : ∀ j q, s = some j → is[j]? = some q → GH o env isF q.g) : Rep S w (a.eval x) v := by
  cases x with
  | tmp t =>
    simp only [opnd] at hx
    have h4 := h.2.2.2.2 t
    split at hx
    · rename_i j hd
      rw [hd] at h4
      obtain ⟨q, hq, hy, _⟩ := h4
      rw [hq] at hx
      simp only [Option.map_some, Option.some.injEq, Prod.mk.injEq] at hx
      obtain ⟨rfl, rfl⟩ := hx
      obtain ⟨u, hu, hr⟩ := hy (hs j q rfl hq) v hv
      simpa [Act.eval, Array.getD_eq_getD_getElem?, hu] using hr
    · rename_i hd
      rw [hd] at h4
      simp only [Option.some.injEq, Prod.mk.injEq] at hx
      obtain ⟨rfl, rfl⟩ := hx
      simp only [evalX] at hv
      obtain ⟨u, hu, hr⟩ := hl t v hv
      have h4' : a.tmps[t]? = some u := h4.trans hu
      simpa [Act.eval, Array.getD_eq_getD_getElem?, h4'] using hr
  | const c =>
    simp only [opnd] at hx
    cases hc : ofConst c with
    | none => rw [hc] at hx; cases hx
    | some c' =>
      rw [hc] at hx
      simp only [Option.map_some, Option.some.injEq, Prod.mk.injEq] at hx
      obtain ⟨rfl, rfl⟩ := hx
      simp only [evalX, Option.some.injEq] at hv
      subst hv
      exact ofConst_rep hc
  | func f =>
    simp only [opnd, Option.some.injEq, Prod.mk.injEq] at hx
    obtain ⟨rfl, rfl⟩ := hx
    simp only [evalX, Option.some.injEq] at hv
    subst hv
    exact .f _ #[] #[] [] [] rfl rfl (by simp) (by simp)
  | global g => simp [opnd] at hx

theorem opnds_spec : ∀ {xs : List Operand} {ys : List (Option Nat × X)}, opnds defs is xs = some ys → ys.length = xs.length ∧ ∀ (i : Nat) x, xs[i]? = some x → ∃ y, ys[i]? = some y ∧ opnd defs is x = some y
  | [], ys, h => by simp only [opnds, Option.some.injEq] at h; subst h; exact ⟨rfl, by simp⟩
  | x :: xs, ys, h => by
    simp only [opnds] at h
    cases hx : opnd defs is x with
    | none => rw [hx] at h; cases h
    | some y =>
      rw [hx] at h
      simp only [Option.bind_some] at h
      cases hxs : opnds defs is xs with
      | none => rw [hxs] at h; cases h
      | some r =>
        rw [hxs] at h
        simp only [Option.bind_some, Option.some.injEq] at h
        subst h
        obtain ⟨h1, h2⟩ := opnds_spec hxs
        refine ⟨by simp [h1], fun i y' hy => ?_⟩
        cases i with
        | zero => simp at hy; subst hy; exact ⟨y, rfl, hx⟩
        | succ i => simp at hy; obtain ⟨u, hu, he⟩ := h2 i y' hy; exact ⟨u, by simpa using hu, he⟩

theorem opnds_vals (h : QInv o env isF a0 S defs is a w) (hl : ∀ n v, look env n = some v → ∃ u, a0.tmps[n]? = some u ∧ Rep S w u v) {xs : List Operand} {ys : List (Option Nat × X)} (hx : opnds defs is xs = some ys) {vs : List V} (hv : evalXs o env (ys.map (·.2)) = some vs)
    (hs : ∀ y ∈ ys, ∀ j q, y.1 = some j → is[j]? = some q → GH o env isF q.g) : Reps S w (xs.map a.eval) vs := by
  obtain ⟨hl1, h1⟩ := opnds_spec hx
  obtain ⟨hl2, h2⟩ := evalXs_at hv
  refine ⟨by simp [hl2, hl1], fun i u v hu hv' => ?_⟩
  rw [List.getElem?_map] at hu
  cases hxi : xs[i]? with
  | none => rw [hxi] at hu; cases hu
  | some x =>
    rw [hxi] at hu
    simp only [Option.map_some, Option.some.injEq] at hu
    subst hu
    obtain ⟨y, hy, ho⟩ := h1 i x hxi
    obtain ⟨v', hv2, he⟩ := h2 i y.2 (by rw [List.getElem?_map, hy]; rfl)
    rw [hv'] at hv2; cases hv2
    exact opnd_val h hl (s := y.1) (X := y.2) (by simpa using ho) he fun j q => hs y (List.mem_of_getElem? hy) j q

theorem defOf_lt (h : QInv o env isF a0 S defs is a w) {t : Tmp} {j : Nat} (hd : defOf defs t = some j) : j < is.length := by
  have := h.2.2.2.2 t
  rw [hd] at this
  obtain ⟨q, hq, _⟩ := this
  exact (List.getElem?_eq_some_iff.1 hq).1
theorem opnd_src (hlt0 : ∀ t j, defOf defs t = some j → j < is.length) (hpre0 : ∀ j, j < is.length → is[j]? = isF[j]?) {x : Operand} {j : Nat} {X : X} (hx : opnd defs is x = some (some j, X)) : ∃ q, isF[j]? = some q ∧ X = q.x := by
  cases x with
  | tmp t =>
    simp only [opnd] at hx
    split at hx
    · rename_i j' hd
      have hlt := hlt0 _ _ hd
      cases hq : is[j']? with
      | none => rw [hq] at hx; cases hx
      | some q =>
        rw [hq] at hx
        simp only [Option.map_some, Option.some.injEq, Prod.mk.injEq] at hx
        obtain ⟨rfl, rfl⟩ := hx
        exact ⟨q, (hpre0 _ hlt).symm.trans hq, rfl⟩
    · simp at hx
  | const c => simp only [opnd] at hx; cases hc : ofConst c <;> rw [hc] at hx <;> simp at hx
  | func f => simp [opnd] at hx
  | global g => simp [opnd] at hx

/-- The shape of a new operation's expression. -/
theorem qnode_shape {draw : Bool} (hlt0 : ∀ t j, defOf defs t = some j → j < is.length) (hpre0 : ∀ j, j < is.length → is[j]? = isF[j]?) {op : Oper} {q : QI} (hq : qnode P draw defs is op = some q) : Shape isF q ∧ q.g = op.guard := by
  unfold qnode at hq
  split at hq
  · rename_i c x y _
    cases hc : opnd defs is c with
    | none => rw [hc] at hq; cases hq
    | some c' =>
      rw [hc] at hq
      simp only [Option.bind_some] at hq
      cases hx : opnd defs is x with
      | none => rw [hx] at hq; cases hq
      | some x' =>
        rw [hx] at hq
        simp only [Option.bind_some] at hq
        cases hy : opnd defs is y with
        | none => rw [hy] at hq; cases hq
        | some y' =>
          rw [hy] at hq
          simp only [Option.bind_some, Option.some.injEq] at hq
          subst hq
          refine ⟨⟨fun h0 => by simp at h0, fun _ => ⟨c'.2, x'.2, y'.2, c'.1, x'.1, y'.1, rfl, rfl, fun j hj => ?_, fun j hj => ?_, fun j hj => ?_⟩, fun _ h1 => absurd rfl h1⟩, rfl⟩
          · exact opnd_src hlt0 hpre0 (x := c) (by rw [hc, ← hj])
          · exact opnd_src hlt0 hpre0 (x := x) (by rw [hx, ← hj])
          · exact opnd_src hlt0 hpre0 (x := y) (by rw [hy, ← hj])
  · rename_i x _
    cases hx : opnd defs is x with
    | none => rw [hx] at hq; cases hq
    | some y =>
      rw [hx] at hq
      simp only [Option.bind_some, Option.some.injEq] at hq
      subst hq
      exact ⟨⟨fun h0 => by simp at h0, fun h0 => by simp at h0, fun _ _ => ⟨y.1, rfl, fun j hj => opnd_src hlt0 hpre0 (x := x) (by rw [hx, ← hj])⟩⟩, rfl⟩
  · rename_i x _
    cases hx : opnd defs is x with
    | none => rw [hx] at hq; cases hq
    | some y =>
      rw [hx] at hq
      simp only [Option.bind_some, Option.some.injEq] at hq
      subst hq
      exact ⟨⟨fun h0 => by simp at h0, fun h0 => by simp at h0, fun _ _ => ⟨y.1, rfl, fun j hj => opnd_src hlt0 hpre0 (x := x) (by rw [hx, ← hj])⟩⟩, rfl⟩
  · cases hp : qop P op.op with
    | none => rw [hp] at hq; cases hq
    | some p =>
      rw [hp] at hq
      simp only [Option.bind_some] at hq
      cases hd : drawOp draw p.1 with
      | none => rw [hd] at hq; cases hq
      | some p' =>
        rw [hd] at hq
        simp only [Option.bind_some] at hq
        cases hy : opnds defs is p.2 with
        | none => rw [hy] at hq; cases hq
        | some ys =>
          rw [hy] at hq
          simp only [Option.bind_some, Option.some.injEq] at hq
          subst hq
          refine ⟨⟨fun _ => ⟨p', ys.map (·.2), rfl, by simp, fun i j hij => ?_⟩, fun h1 => by simp at h1, fun h0 => absurd rfl h0⟩, rfl⟩
          simp only [List.getElem?_map] at hij
          cases hyi : ys[i]? with
          | none => rw [hyi] at hij; cases hij
          | some y =>
            rw [hyi] at hij
            simp only [Option.map_some, Option.some.injEq] at hij
            obtain ⟨hl, h1⟩ := opnds_spec hy
            have hi : i < p.2.length := by rw [← hl]; exact (List.getElem?_eq_some_iff.1 hyi).1
            obtain ⟨y', hy', ho⟩ := h1 i _ (List.getElem?_eq_getElem hi)
            rw [hyi] at hy'; cases hy'
            obtain ⟨q', hq', he⟩ := opnd_src hlt0 hpre0 (j := j) (X := y.2) (by rw [ho, ← hij])
            exact ⟨q', hq', by rw [List.getElem?_map, hyi, ← he]; rfl⟩
end
end Go.VM
