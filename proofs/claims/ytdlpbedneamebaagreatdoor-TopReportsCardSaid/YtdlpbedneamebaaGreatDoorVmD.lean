/-
  A region of quiet operations, in the text's order or in any. No program is named here.
-/
import Derived.Test.YtdlpbedneamebaaGreatDoorVmC
import Derived.Deep.Quiet
set_option linter.unusedSectionVars false
namespace Go.VM
open Go.RowKit
variable [Glob]

inductive GH (o : Orc) (env : Env) (is : List QI) : Option (Nat × Bool) → Prop
  | top : GH o env is none
  | dn (c : Nat) (b : Bool) (q : QI) (h : is[c]? = some q) (hg : GH o env is q.g) (hv : evalX o env q.x = some (.b b)) : GH o env is (some (c, b))

section
variable {P : Program} {o : Orc} {env : Env} {is : List QI}

theorem ancG_spec {isF : List QI} (hpre : ∀ (c : Nat) q, is[c]? = some q → isF[c]? = some q) : ∀ (n : Nat) (gi gj : Option (Nat × Bool)), ancG is n gi gj = true → GH o env isF gi → GH o env isF gj
  | 0, gi, gj, h, _ => by simp only [ancG, beq_iff_eq] at h; subst h; exact .top
  | n + 1, gi, gj, h, hi => by
    simp only [ancG, Bool.or_eq_true, beq_iff_eq] at h
    rcases h with (rfl | rfl) | h
    · exact .top
    · exact hi
    · cases hi with
      | top => simp at h
      | dn c b q hq hg hv =>
        cases hc : is[c]? with
        | none => simp [hc] at h
        | some C =>
          have := hpre c C hc
          rw [hq] at this; cases this
          simp only [hc] at h
          exact ancG_spec hpre n q.g gj h hg

def Shape (is : List QI) (q : QI) : Prop :=
  (q.kind = 0 → ∃ p xs, q.x = .op p xs ∧ xs.length = q.srcs.length ∧ ∀ (i : Nat) j, q.srcs[i]? = some (some j) → ∃ q', is[j]? = some q' ∧ xs[i]? = some q'.x) ∧
  (q.kind = 1 → ∃ c a b sc sa sb, q.x = .ite c a b ∧ q.srcs = [sc, sa, sb] ∧ (∀ j, sc = some j → ∃ q', is[j]? = some q' ∧ c = q'.x) ∧ (∀ j, sa = some j → ∃ q', is[j]? = some q' ∧ a = q'.x) ∧ (∀ j, sb = some j → ∃ q', is[j]? = some q' ∧ b = q'.x)) ∧
  (q.kind ≠ 0 → q.kind ≠ 1 → ∃ s, q.srcs = [s] ∧ ∀ j, s = some j → ∃ q', is[j]? = some q' ∧ q.x = q'.x)

theorem evalXs_at : ∀ {xs : List X} {vs : List V}, evalXs o env xs = some vs → vs.length = xs.length ∧ ∀ (i : Nat) x, xs[i]? = some x → ∃ v, vs[i]? = some v ∧ evalX o env x = some v
  | [], vs, h => by simp only [evalXs, Option.some.injEq] at h; subst h; exact ⟨rfl, by simp⟩
  | x :: xs, vs, h => by
    simp only [evalXs] at h
    cases hx : evalX o env x with
    | none => rw [hx] at h; cases h
    | some v =>
      rw [hx] at h
      simp only [Option.bind_some] at h
      cases hxs : evalXs o env xs with
      | none => rw [hxs] at h; cases h
      | some r =>
        rw [hxs] at h
        simp only [Option.bind_some, Option.some.injEq] at h
        subst h
        obtain ⟨h1, h2⟩ := evalXs_at hxs
        refine ⟨by simp [h1], fun i y hy => ?_⟩
        cases i with
        | zero => simp at hy; subst hy; exact ⟨v, rfl, hx⟩
        | succ i => simp at hy; obtain ⟨u, hu, he⟩ := h2 i y hy; exact ⟨u, by simpa using hu, he⟩

theorem demanded_spec (hsh : ∀ (k : Nat) q, is[k]? = some q → Shape is q) {roots : List Nat} (hd : demanded is roots = true) (hr : ∀ j ∈ roots, ∀ q, is[j]? = some q → ∃ v, evalX o env q.x = some v) :
    ∀ (m i : Nat), is.length - i ≤ m → ∀ q, is[i]? = some q → GH o env is q.g → ∃ v, evalX o env q.x = some v := by
  intro m
  induction m with
  | zero =>
    intro i hi q hq _
    have := (List.getElem?_eq_some_iff.1 hq).1
    omega
  | succ m ih =>
    intro i hi q hq hg
    have hil := (List.getElem?_eq_some_iff.1 hq).1
    unfold demanded at hd
    have h1 := List.all_eq_true.1 hd i (List.mem_range.2 hil)
    simp only [Bool.or_eq_true, List.contains_eq_mem, decide_eq_true_eq, List.any_eq_true, List.mem_range, Bool.and_eq_true] at h1
    rcases h1 with h1 | ⟨k, hk, hik, hf⟩
    · exact hr i h1 q hq
    · have hK : is[k]? = some is[k] := List.getElem?_eq_getElem hk
      have hkm : is.length - k ≤ m := by omega
      obtain ⟨s0, s1, s2⟩ := hsh k _ hK
      unfold feeds at hf
      rw [hq, hK] at hf
      simp only at hf
      generalize is[k] = K at hf hK s0 s1 s2
      by_cases h1 : K.kind = 1
      · rw [if_pos h1] at hf
        obtain ⟨c, a, b, sc, sa, sb, hx, hsr, hc, ha, hb⟩ := s1 h1
        rw [hsr] at hf
        simp only [Bool.or_eq_true, Bool.and_eq_true, beq_iff_eq] at hf
        have strict : GH o env is K.g → ∃ v, evalX o env K.x = some v := fun hg => ih k hkm K hK hg
        rcases hf with ⟨rfl, hgg⟩ | hf
        · obtain ⟨v, hv⟩ := strict (hgg ▸ hg)
          obtain ⟨q', hq', rfl⟩ := hc i rfl
          rw [hq] at hq'; cases hq'
          rw [hx] at hv
          simp only [evalX] at hv
          cases he : evalX o env q.x with
          | none => rw [he] at hv; cases hv
          | some u => exact ⟨u, rfl⟩
        · cases sc with
          | none => cases hf
          | some j =>
            simp only [Bool.and_eq_true, Bool.or_eq_true, beq_iff_eq] at hf
            obtain ⟨hf, hJ⟩ := hf
            obtain ⟨q', hq', rfl⟩ := hc j rfl
            rw [hq'] at hJ
            simp only [beq_iff_eq] at hJ
            rcases hf with ⟨rfl, hgi⟩ | ⟨rfl, hgi⟩
            · rw [hgi] at hg
              cases hg with
              | dn _ _ q2 h2 hg2 hv2 =>
                rw [hq'] at h2; cases h2
                obtain ⟨v, hv⟩ := strict (hJ ▸ hg2)
                obtain ⟨q3, hq3, rfl⟩ := ha i rfl
                rw [hq] at hq3; cases hq3
                rw [hx] at hv
                simp only [evalX, hv2, Option.bind_some, if_true] at hv
                exact ⟨v, hv⟩
            · rw [hgi] at hg
              cases hg with
              | dn _ _ q2 h2 hg2 hv2 =>
                rw [hq'] at h2; cases h2
                obtain ⟨v, hv⟩ := strict (hJ ▸ hg2)
                obtain ⟨q3, hq3, rfl⟩ := hb i rfl
                rw [hq] at hq3; cases hq3
                rw [hx] at hv
                simp only [evalX, hv2, Option.bind_some, Bool.false_eq_true, if_false] at hv
                exact ⟨v, hv⟩
      · rw [if_neg h1] at hf
        simp only [Bool.and_eq_true, List.contains_eq_mem, decide_eq_true_eq, beq_iff_eq] at hf
        obtain ⟨hmem, hgg⟩ := hf
        obtain ⟨v, hv⟩ := ih k hkm K hK (hgg ▸ hg)
        obtain ⟨pos, hpos⟩ := List.mem_iff_getElem?.1 hmem
        by_cases h0 : K.kind = 0
        · obtain ⟨p, xs, hx, hl, hs⟩ := s0 h0
          obtain ⟨q', hq', hxp⟩ := hs pos i hpos
          rw [hq] at hq'; cases hq'
          rw [hx] at hv
          simp only [evalX] at hv
          cases he : evalXs o env xs with
          | none => rw [he] at hv; cases hv
          | some us =>
            obtain ⟨u, _, hu⟩ := (evalXs_at he).2 pos _ hxp
            exact ⟨u, hu⟩
        · obtain ⟨s, hsr, hs⟩ := s2 h0 h1
          rw [hsr] at hpos
          cases pos with
          | zero =>
            simp only [List.getElem?_cons_zero, Option.some.injEq] at hpos
            obtain ⟨q', hq', hx⟩ := hs i hpos
            rw [hq] at hq'; cases hq'
            exact ⟨v, hx ▸ hv⟩
          | succ pos => simp at hpos
end

section
variable (o : Orc) (env : Env) (isF : List QI) (a0 : Act)
def QInvE (E R : Nat → Prop) (S : Nat → Prop) (defs : List (Tmp × Nat)) (is : List QI) (a : Act) (w : World) : Prop :=
  a.tmps.size = a0.tmps.size ∧ a.defers = a0.defers ∧ (∀ j, j < is.length → is[j]? = isF[j]?) ∧ is.length ≤ isF.length ∧ ∀ t, match defOf defs t with
    | none => R t → a.tmps[t]? = a0.tmps[t]?
    | some j => ∃ q, is[j]? = some q ∧ (E j → GH o env isF q.g → ∀ v, evalX o env q.x = some v → ∃ u, a.tmps[t]? = some u ∧ Rep S w u v) ∧ (E j → ¬ GH o env isF q.g → ∀ b, a.tmps[t]? ≠ some (.bool b))
abbrev QInv (S : Nat → Prop) (defs : List (Tmp × Nat)) (is : List QI) (a : Act) (w : World) : Prop := QInvE o env isF a0 (fun _ => True) (fun _ => True) S defs is a w
theorem mem_slotsXs {n : Nat} : ∀ {xs : List X} {x : X}, x ∈ xs → n ∈ slotsX x → n ∈ slotsXs xs
  | y :: ys, x, h, hn => by
    simp only [slotsXs, List.mem_append]
    rcases List.mem_cons.1 h with rfl | h
    · exact .inl hn
    · exact .inr (mem_slotsXs h hn)
end

section
variable {P : Program} {o : Orc} {env : Env} {isF : List QI} {a0 : Act} {E R : Nat → Prop} {S : Nat → Prop} {defs : List (Tmp × Nat)} {is : List QI} {a : Act} {w : World}

theorem QInvE.move {S' : Nat → Prop} {w' : World} (h : QInvE o env isF a0 E R S defs is a w) (hS : ∀ b, S b → S' b) (hw : ∀ p : Addr, S p.block → w'.cell? p = w.cell? p) : QInvE o env isF a0 E R S' defs is a w' := by
  obtain ⟨h1, h2, h3, h3', h4⟩ := h
  refine ⟨h1, h2, h3, h3', fun t => ?_⟩
  have := h4 t
  split at this
  · exact this
  · rename_i j hd
    obtain ⟨q, hq, hy, hn⟩ := this
    exact ⟨q, hq, fun he hg v hv => let ⟨u, hu, hr⟩ := hy he hg v hv; ⟨u, hu, hr.move hS hw⟩, hn⟩

theorem opnd_val (h : QInvE o env isF a0 E R S defs is a w) (hl : (∀ n v, look env n = some v → ∃ u, a0.tmps[n]? = some u ∧ Rep S w u v) ∧ GOK S w) {x : Operand} {s : Option Nat} {X : X} (hx : opnd defs is x = some (s, X)) {v : V} (hv : evalX o env X = some v)
    (hs : ∀ j q, s = some j → is[j]? = some q → GH o env isF q.g) (hE : ∀ j, s = some j → E j) (hR : ∀ t ∈ slotsX X, R t) : Rep S w (a.eval x) v := by
  cases x with
  | tmp t =>
    simp only [opnd] at hx
    have h4 := h.2.2.2.2 t
    split at hx
    · rename_i j hd
      rw [hd] at h4
      obtain ⟨q, hq, hy, _⟩ := h4
      rw [hq] at hx
      simp only [Option.map_some, Option.some.injEq, Prod.mk.injEq] at hx
      obtain ⟨rfl, rfl⟩ := hx
      obtain ⟨u, hu, hr⟩ := hy (hE j rfl) (hs j q rfl hq) v hv
      simpa [Act.eval, Array.getD_eq_getD_getElem?, hu] using hr
    · rename_i hd
      rw [hd] at h4
      simp only [Option.some.injEq, Prod.mk.injEq] at hx
      obtain ⟨rfl, rfl⟩ := hx
      simp only [evalX] at hv
      obtain ⟨u, hu, hr⟩ := hl.1 t v hv
      have h4' : a.tmps[t]? = some u := (h4 (hR t (by simp [slotsX]))).trans hu
      simpa [Act.eval, Array.getD_eq_getD_getElem?, h4'] using hr
  | const c =>
    simp only [opnd] at hx
    cases hc : ofConst c with
    | none => rw [hc] at hx; cases hx
    | some c' =>
      rw [hc] at hx
      simp only [Option.map_some, Option.some.injEq, Prod.mk.injEq] at hx
      obtain ⟨rfl, rfl⟩ := hx
      simp only [evalX, Option.some.injEq] at hv
      subst hv
      exact ofConst_rep hc
  | func f =>
    simp only [opnd, Option.some.injEq, Prod.mk.injEq] at hx
    obtain ⟨rfl, rfl⟩ := hx
    simp only [evalX, Option.some.injEq] at hv
    subst hv
    exact .f _ #[] #[] [] [] rfl rfl (by simp) (by simp)
  | global g =>
    simp only [opnd] at hx
    cases hc : globV g with
    | none => rw [hc] at hx; cases hx
    | some c' =>
      rw [hc] at hx
      simp only [Option.map_some, Option.some.injEq, Prod.mk.injEq] at hx
      obtain ⟨rfl, rfl⟩ := hx
      simp only [evalX, Option.some.injEq] at hv
      subst hv
      exact hl.2.val hc

theorem opnds_spec : ∀ {xs : List Operand} {ys : List (Option Nat × X)}, opnds defs is xs = some ys → ys.length = xs.length ∧ ∀ (i : Nat) x, xs[i]? = some x → ∃ y, ys[i]? = some y ∧ opnd defs is x = some y
  | [], ys, h => by simp only [opnds, Option.some.injEq] at h; subst h; exact ⟨rfl, by simp⟩
  | x :: xs, ys, h => by
    simp only [opnds] at h
    cases hx : opnd defs is x with
    | none => rw [hx] at h; cases h
    | some y =>
      rw [hx] at h
      simp only [Option.bind_some] at h
      cases hxs : opnds defs is xs with
      | none => rw [hxs] at h; cases h
      | some r =>
        rw [hxs] at h
        simp only [Option.bind_some, Option.some.injEq] at h
        subst h
        obtain ⟨h1, h2⟩ := opnds_spec hxs
        refine ⟨by simp [h1], fun i y' hy => ?_⟩
        cases i with
        | zero => simp at hy; subst hy; exact ⟨y, rfl, hx⟩
        | succ i => simp at hy; obtain ⟨u, hu, he⟩ := h2 i y' hy; exact ⟨u, by simpa using hu, he⟩

theorem opnds_vals (h : QInvE o env isF a0 E R S defs is a w) (hl : (∀ n v, look env n = some v → ∃ u, a0.tmps[n]? = some u ∧ Rep S w u v) ∧ GOK S w) {xs : List Operand} {ys : List (Option Nat × X)} (hx : opnds defs is xs = some ys) {vs : List V} (hv : evalXs o env (ys.map (·.2)) = some vs)
    (hs : ∀ y ∈ ys, ∀ j q, y.1 = some j → is[j]? = some q → GH o env isF q.g) (hE : ∀ y ∈ ys, ∀ j, y.1 = some j → E j) (hR : ∀ y ∈ ys, ∀ t ∈ slotsX y.2, R t) : Reps S w (xs.map a.eval) vs := by
  obtain ⟨hl1, h1⟩ := opnds_spec hx
  obtain ⟨hl2, h2⟩ := evalXs_at hv
  refine ⟨by simp [hl2, hl1], fun i u v hu hv' => ?_⟩
  rw [List.getElem?_map] at hu
  cases hxi : xs[i]? with
  | none => rw [hxi] at hu; cases hu
  | some x =>
    rw [hxi] at hu
    simp only [Option.map_some, Option.some.injEq] at hu
    subst hu
    obtain ⟨y, hy, ho⟩ := h1 i x hxi
    obtain ⟨v', hv2, he⟩ := h2 i y.2 (by rw [List.getElem?_map, hy]; rfl)
    rw [hv'] at hv2; cases hv2
    exact opnd_val h hl (s := y.1) (X := y.2) (by simpa using ho) he (fun j q => hs y (List.mem_of_getElem? hy) j q) (hE y (List.mem_of_getElem? hy)) (hR y (List.mem_of_getElem? hy))

theorem defOf_lt (h : QInvE o env isF a0 E R S defs is a w) {t : Tmp} {j : Nat} (hd : defOf defs t = some j) : j < is.length := by
  have := h.2.2.2.2 t
  rw [hd] at this
  obtain ⟨q, hq, _⟩ := this
  exact (List.getElem?_eq_some_iff.1 hq).1
theorem opnd_src (hlt0 : ∀ t j, defOf defs t = some j → j < is.length) (hpre0 : ∀ j, j < is.length → is[j]? = isF[j]?) {x : Operand} {j : Nat} {X : X} (hx : opnd defs is x = some (some j, X)) : ∃ q, isF[j]? = some q ∧ X = q.x := by
  cases x with
  | tmp t =>
    simp only [opnd] at hx
    split at hx
    · rename_i j' hd
      have hlt := hlt0 _ _ hd
      cases hq : is[j']? with
      | none => rw [hq] at hx; cases hx
      | some q =>
        rw [hq] at hx
        simp only [Option.map_some, Option.some.injEq, Prod.mk.injEq] at hx
        obtain ⟨rfl, rfl⟩ := hx
        exact ⟨q, (hpre0 _ hlt).symm.trans hq, rfl⟩
    · simp at hx
  | const c => simp only [opnd] at hx; cases hc : ofConst c <;> rw [hc] at hx <;> simp at hx
  | func f => simp [opnd] at hx
  | global g => simp only [opnd] at hx; cases hc : globV g <;> rw [hc] at hx <;> simp at hx

theorem qnode_shape {draw : Bool} (hlt0 : ∀ t j, defOf defs t = some j → j < is.length) (hpre0 : ∀ j, j < is.length → is[j]? = isF[j]?) {op : Oper} {q : QI} (hq : qnode P draw defs is op = some q) : Shape isF q ∧ q.g = op.guard := by
  unfold qnode at hq
  split at hq
  · rename_i c x y _
    cases hc : opnd defs is c with
    | none => rw [hc] at hq; cases hq
    | some c' =>
      rw [hc] at hq
      simp only [Option.bind_some] at hq
      cases hx : opnd defs is x with
      | none => rw [hx] at hq; cases hq
      | some x' =>
        rw [hx] at hq
        simp only [Option.bind_some] at hq
        cases hy : opnd defs is y with
        | none => rw [hy] at hq; cases hq
        | some y' =>
          rw [hy] at hq
          simp only [Option.bind_some, Option.some.injEq] at hq
          subst hq
          refine ⟨⟨fun h0 => by simp at h0, fun _ => ⟨c'.2, x'.2, y'.2, c'.1, x'.1, y'.1, rfl, rfl, fun j hj => ?_, fun j hj => ?_, fun j hj => ?_⟩, fun _ h1 => absurd rfl h1⟩, rfl⟩
          · exact opnd_src hlt0 hpre0 (x := c) (by rw [hc, ← hj])
          · exact opnd_src hlt0 hpre0 (x := x) (by rw [hx, ← hj])
          · exact opnd_src hlt0 hpre0 (x := y) (by rw [hy, ← hj])
  · rename_i x _
    cases hx : opnd defs is x with
    | none => rw [hx] at hq; cases hq
    | some y =>
      rw [hx] at hq
      simp only [Option.bind_some, Option.some.injEq] at hq
      subst hq
      exact ⟨⟨fun h0 => by simp at h0, fun h0 => by simp at h0, fun _ _ => ⟨y.1, rfl, fun j hj => opnd_src hlt0 hpre0 (x := x) (by rw [hx, ← hj])⟩⟩, rfl⟩
  · rename_i x _
    cases hx : opnd defs is x with
    | none => rw [hx] at hq; cases hq
    | some y =>
      rw [hx] at hq
      simp only [Option.bind_some, Option.some.injEq] at hq
      subst hq
      exact ⟨⟨fun h0 => by simp at h0, fun h0 => by simp at h0, fun _ _ => ⟨y.1, rfl, fun j hj => opnd_src hlt0 hpre0 (x := x) (by rw [hx, ← hj])⟩⟩, rfl⟩
  · cases hp : qop P op.op with
    | none => rw [hp] at hq; cases hq
    | some p =>
      rw [hp] at hq
      simp only [Option.bind_some] at hq
      cases hd : drawOp draw p.1 with
      | none => rw [hd] at hq; cases hq
      | some p' =>
        rw [hd] at hq
        simp only [Option.bind_some] at hq
        cases hy : opnds defs is p.2 with
        | none => rw [hy] at hq; cases hq
        | some ys =>
          rw [hy] at hq
          simp only [Option.bind_some, Option.some.injEq] at hq
          subst hq
          refine ⟨⟨fun _ => ⟨p', ys.map (·.2), rfl, by simp, fun i j hij => ?_⟩, fun h1 => by simp at h1, fun h0 => absurd rfl h0⟩, rfl⟩
          simp only [List.getElem?_map] at hij
          cases hyi : ys[i]? with
          | none => rw [hyi] at hij; cases hij
          | some y =>
            rw [hyi] at hij
            simp only [Option.map_some, Option.some.injEq] at hij
            obtain ⟨hl, h1⟩ := opnds_spec hy
            have hi : i < p.2.length := by rw [← hl]; exact (List.getElem?_eq_some_iff.1 hyi).1
            obtain ⟨y', hy', ho⟩ := h1 i _ (List.getElem?_eq_getElem hi)
            rw [hyi] at hy'; cases hy'
            obtain ⟨q', hq', he⟩ := opnd_src hlt0 hpre0 (j := j) (X := y.2) (by rw [ho, ← hij])
            exact ⟨q', hq', by rw [List.getElem?_map, hyi, ← he]; rfl⟩
end
end Go.VM
/-
  One operation of a quiet region. No program is named here.
-/
namespace Go.VM
open Go.RowKit
variable [Glob]

section
variable {P : Program} {o : Orc} {env : Env} {isF : List QI} {a0 : Act} {E R : Nat → Prop} {S : Nat → Prop} {defs : List (Tmp × Nat)} {is : List QI} {a : Act} {w : World}

theorem uniq_flat : ∀ (x : V), x.uniq = true → x.flat = true := by
  intro x
  have key : ∀ (n : Nat) (x : V), SizeOf.sizeOf x < n → x.uniq = true → x.flat = true := by
    intro n
    induction n with
    | zero => intro x h; omega
    | succ n ih =>
      intro x hn hx
      cases x with
      | a cs =>
        simp only [V.uniq, V.flat] at hx ⊢
        rw [V.uniqs_iff] at hx
        rw [V.flats_iff]
        intro y hy
        exact ih y (by have := List.sizeOf_lt_of_mem hy; simp at hn; omega) (hx y hy)
      | t cs =>
        simp only [V.uniq, V.flat] at hx ⊢
        rw [V.uniqs_iff] at hx
        rw [V.flats_iff]
        intro y hy
        exact ih y (by have := List.sizeOf_lt_of_mem hy; simp at hn; omega) (hx y hy)
      | _ => simp_all [V.uniq, V.flat]
  exact key _ x (Nat.lt_succ_self _)
theorem uniq_frz (x : V) (h : x.uniq = true) : frz x = x := by cases x <;> simp_all [V.uniq, frz]
theorem uniq_frzt (x : V) (h : x.uniq = true) : frzt x = x := by
  cases x with
  | t ys =>
    simp only [V.uniq] at h
    rw [V.uniqs_iff] at h
    simp only [frzt]
    congr 1
    rw [List.map_congr_left (g := id) fun y hy => uniq_frz y (h y hy)]
    simp
  | _ => simp_all [V.uniq, frzt, frz]

theorem node_vals {draw : Bool} (h : QInvE o env isF a0 E R S defs is a w) (hl : (∀ n v, look env n = some v → ∃ u, a0.tmps[n]? = some u ∧ Rep S w u v) ∧ GOK S w) {op : Oper} {q : QI} (hq : qnode P draw defs is op = some q)
    (hsrc : srcsOk is q = true) (hg : GH o env isF q.g) (hE : ∀ s ∈ q.srcs, ∀ j, s = some j → E j) (hR : ∀ t ∈ slotsX q.x, R t) {v : V} (hv : evalX o env q.x = some v) :
    (∃ u, Rep S w u v ∧ ∀ w', (execOp a.eval op).run P w' = .ok (.value u) w') ∨
    (∃ p p' xs vs, qop P op.op = some (p, xs) ∧ drawOp draw p = some p' ∧ Reps S w (xs.map a.eval) vs ∧ opQ o p' vs = some v) := by
  have hpre : ∀ (c : Nat) q, is[c]? = some q → isF[c]? = some q := fun c q' hc => (h.2.2.1 c (List.getElem?_eq_some_iff.1 hc).1).symm.trans hc
  have hok : ∀ s, srcOk is q.g s = true → ∀ j q', s = some j → is[j]? = some q' → GH o env isF q'.g := by
    intro s hs j q' hj hq'
    subst hj
    simp only [srcOk, hq'] at hs
    exact ancG_spec hpre 100 q.g q'.g hs hg
  unfold qnode at hq
  unfold srcsOk at hsrc
  split at hq
  · rename_i c x y hop
    left
    cases hc : opnd defs is c with
    | none => rw [hc] at hq; cases hq
    | some c' =>
      rw [hc] at hq
      simp only [Option.bind_some] at hq
      cases hx : opnd defs is x with
      | none => rw [hx] at hq; cases hq
      | some x' =>
        rw [hx] at hq
        simp only [Option.bind_some] at hq
        cases hy : opnd defs is y with
        | none => rw [hy] at hq; cases hq
        | some y' =>
          rw [hy] at hq
          simp only [Option.bind_some, Option.some.injEq] at hq
          subst hq
          simp only [if_true, Bool.and_eq_true] at hsrc
          obtain ⟨⟨h1, h2⟩, h3⟩ := hsrc
          simp only [evalX] at hv
          cases hcv : evalX o env c'.2 with
          | none => rw [hcv] at hv; cases hv
          | some vc =>
            rw [hcv] at hv
            simp only [Option.bind_some] at hv
            have rc := opnd_val h hl (s := c'.1) (X := c'.2) (by simpa using hc) hcv (hok _ h1) (hE _ (by simp)) (fun t ht => hR t (by simp [slotsX, ht]))
            have branch : ∀ (b : Bool) (z : Operand) (z' : Option Nat × X), opnd defs is z = some z' → (∀ j, z'.1 = some j → E j) → (∀ t ∈ slotsX z'.2, R t) → srcOk1 is op.guard c'.1 b z'.1 = true → evalX o env c'.2 = some (.b b) → evalX o env z'.2 = some v → Rep S w (a.eval z) v := by
              intro b z z' hz hzE hzR hs hb hzv
              refine opnd_val h hl (s := z'.1) (X := z'.2) (by simpa using hz) hzv (fun j q' hj hq' => ?_) hzE hzR
              unfold srcOk1 at hs
              rw [Bool.or_eq_true] at hs
              rcases hs with hs | hs
              · exact hok _ hs j q' hj hq'
              · cases hc1 : c'.1 with
                | none => rw [hc1] at hs; cases hs
                | some ci =>
                  rw [hc1, hj] at hs
                  simp only [hq', beq_iff_eq] at hs
                  rw [hs]
                  obtain ⟨qc, hqc, hXc⟩ := opnd_src (fun _ _ hd => defOf_lt h hd) h.2.2.1 (x := c) (j := ci) (X := c'.2) (by rw [hc, ← hc1])
                  have hqc' : is[ci]? = some qc := by
                    have hlt : ci < is.length := by
                      rw [hc1] at h1
                      simp only [srcOk] at h1
                      cases hci : is[ci]? with
                      | none => rw [hci] at h1; cases h1
                      | some _ => exact (List.getElem?_eq_some_iff.1 hci).1
                    rw [h.2.2.1 ci hlt]; exact hqc
                  exact .dn ci b qc hqc (hok _ h1 ci qc hc1 hqc') (hXc ▸ hb)
            cases vc with
            | b t =>
              have e : a.eval c = .bool t := by generalize a.eval c = z at rc; cases rc; rfl
              cases t with
              | true =>
                simp only [if_true] at hv
                exact ⟨a.eval x, branch true x x' hx (hE _ (by simp)) (fun t ht => hR t (by simp [slotsX, ht])) h2 hcv hv, fun w' => by simp [execOp, hop, e, asBool]⟩
              | false =>
                simp only [Bool.false_eq_true, if_false] at hv
                exact ⟨a.eval y, branch false y y' hy (hE _ (by simp)) (fun t ht => hR t (by simp [slotsX, ht])) h3 hcv hv, fun w' => by simp [execOp, hop, e, asBool]⟩
            | _ => cases hv
  · rename_i x hop
    left
    cases hx : opnd defs is x with
    | none => rw [hx] at hq; cases hq
    | some y =>
      rw [hx] at hq
      simp only [Option.bind_some, Option.some.injEq] at hq
      subst hq
      simp only [(by decide : ¬ (2 = 1)), if_false, List.all_cons, List.all_nil, Bool.and_true] at hsrc
      exact ⟨a.eval x, opnd_val h hl (s := y.1) (X := y.2) (by simpa using hx) hv (hok _ hsrc) (hE _ (by simp)) hR, fun w' => by simp [execOp, hop]⟩
  · rename_i x hop
    left
    cases hx : opnd defs is x with
    | none => rw [hx] at hq; cases hq
    | some y =>
      rw [hx] at hq
      simp only [Option.bind_some, Option.some.injEq] at hq
      subst hq
      simp only [(by decide : ¬ (2 = 1)), if_false, List.all_cons, List.all_nil, Bool.and_true] at hsrc
      exact ⟨a.eval x, opnd_val h hl (s := y.1) (X := y.2) (by simpa using hx) hv (hok _ hsrc) (hE _ (by simp)) hR, fun w' => by simp [execOp, hop]⟩
  · right
    cases hp : qop P op.op with
    | none => rw [hp] at hq; cases hq
    | some p =>
      rw [hp] at hq
      simp only [Option.bind_some] at hq
      cases hd : drawOp draw p.1 with
      | none => rw [hd] at hq; cases hq
      | some p' =>
        rw [hd] at hq
        simp only [Option.bind_some] at hq
        cases hy : opnds defs is p.2 with
        | none => rw [hy] at hq; cases hq
        | some ys =>
          rw [hy] at hq
          simp only [Option.bind_some, Option.some.injEq] at hq
          subst hq
          simp only [(by decide : ¬ (0 = 1)), if_false] at hsrc
          simp only [evalX] at hv
          cases he : evalXs o env (ys.map (·.2)) with
          | none => rw [he] at hv; cases hv
          | some vs =>
            rw [he] at hv
            simp only [Option.bind_some] at hv
            refine ⟨p.1, p', p.2, vs, rfl, hd, opnds_vals h hl hy he (fun y hy' j q' hj hq' => ?_) (fun y hy' => hE y.1 (List.mem_map.2 ⟨y, hy', rfl⟩)) (fun y hy' t ht => hR t (by simp only [slotsX]; exact mem_slotsXs (List.mem_map.2 ⟨y, hy', rfl⟩) ht)), hv⟩
            exact hok y.1 (List.all_eq_true.1 hsrc _ (List.mem_map.2 ⟨y, hy', rfl⟩)) j q' hj hq'
end
end Go.VM
/-
  What one operation of a quiet region comes to. No program is named here.
-/
namespace Go.VM
open Go.RowKit
variable [Glob]

section
variable {P : Program} {S : Nat → Prop} {w : World}

theorem Res1.val {base : Nat} {v : Value} {y : V} (h : Res1 P S w base v y) (hu : y.uniq = true) : Rep S w v y := by
  cases y <;> first | exact h | exact h.elim | (simp [V.uniq] at hu; done)
theorem Res.val {base : Nat} {v : Value} {y : V} (h : Res P S w base v y) (hu : y.uniq = true) : Rep S w v y := by
  cases y with
  | t ys =>
    obtain ⟨us, rfl, hl, hh, _⟩ := h
    refine .t _ _ (by simpa using hl) fun j u x hu' hx => (hh j u x (by simpa using hu') hx).val ?_
    simp only [V.uniq] at hu
    exact (V.uniqs_iff ys).1 hu x (List.mem_of_getElem? hx)
  | _ => first | exact Res1.val (P := P) (base := base) h hu | (simp [V.uniq] at hu; done)

theorem call_seq {o : Orc} (ho : SoundO P o) {s : Sem Next} {f : FuncId} {us : List Value} {zs : List V} {y : V} (hz : o f zs = some y) (hG : GOK (All w) w) (hr : Reps (All w) w us zs) (hrun : s.run P w = .ok (.enter f us.toArray) w) :
    Outc P (s.run P w) fun u w1 => Below w.heap.size w w1 ∧ Rep (All w1) w1 u (frzt y) := by
  rw [hrun]
  refine ((ho.2 f zs y hz).2 (All w) w us (fun _ h => h) hG hr).mono fun e w1 ⟨v, he, hb, S', hS1, hS2, hres⟩ => ⟨v, he, hb, hres.frzt (fun b hb' => (hS2 b hb').2) fun b _ hb' => hb'⟩
theorem call_quiet {o : Orc} (ho : SoundO P o) {s : Sem Next} {f : FuncId} {us : List Value} {zs : List V} {y : V} (hz : o f zs = some y) (hu : y.uniq = true) (hS : ∀ b, S b → b < w.heap.size) (hG : GOK S w) (hr : Reps S w us zs) (hrun : ∀ w' : World, s.run P w' = .ok (.enter f us.toArray) w') :
    ∃ u, Rep S w u (frzt y) ∧ ∀ w', Below w.heap.size w w' → Oper.quietUpon P (Below w.heap.size w) w' u (s.run P w') := by
  have hcalls : ∀ w', Below w.heap.size w w' → Calls P f us.toArray w' fun e w3 => e = .returned y.toVal ∧ Below w.heap.size w w3 ∧ ∃ S' : Nat → Prop, Rep S' w3 y.toVal y := by
    intro w' hb
    refine ((ho.2 f zs y hz).2 S w' us (fun b h => Nat.lt_of_lt_of_le (hS b h) hb.size) (hG.move (fun _ h => h) fun _ hp => hb.cell (hS _ hp)) (hr.bel hS hb)).mono fun e w1 ⟨v, he, hb1, S', hS1, hS2, hres⟩ => ?_
    have hv := hres.val hu
    have := hv.val hu
    subst this
    exact ⟨he, hb.trans (hb1.mono hb.size), S', hv⟩
  refine ⟨y.toVal, ?_, fun w' hb => ?_⟩
  · obtain ⟨e, w3, fr, ⟨_, _, S', hrep⟩, _⟩ := hcalls w (Below.refl _ _) []
    rw [uniq_frzt y hu]
    exact hrep.of_flat (uniq_flat y hu)
  · rw [hrun]
    exact ⟨rfl, (hcalls w' hb).mono fun e w3 ⟨h1, h2, _⟩ => ⟨h1, h2⟩⟩

theorem buildSlice_fill {k : Nat} : ∀ (ps : List (Nat × Value)) (i : Nat) (cells : Array Value), (∀ (j : Nat) p, ps[j]? = some p → p.1 = i + j ∧ p.2.cells.size = k) → cells.size = (i + ps.length) * k →
    ∃ cells', Instr.fill (fun i => some (i * k, k)) cells ps = some cells' ∧ cells'.toList = cells.toList.take (i * k) ++ (ps.flatMap fun p => p.2.cells.toList)
  | [], i, cells, _, hs => ⟨cells, rfl, by simp at hs; simp [List.take_of_length_le, hs]⟩
  | (i', v) :: ps, i, cells, hp, hs => by
    obtain ⟨h1, h2⟩ := hp 0 (i', v) rfl
    simp only [Nat.add_zero] at h1 h2
    subst h1
    simp only [List.length_cons] at hs
    have hk : i' * k + k ≤ cells.size := by
      rw [hs, ← Nat.succ_mul]; exact Nat.mul_le_mul_right _ (by omega)
    have hset := foldl_set v.cells.toList (i' * k) cells (by simp; omega)
    have e : (v.cells.zipIdx.foldl (fun cs (c, j) => cs.setIfInBounds (i' * k + j) c) cells) = ((v.cells.toList.zipIdx 0).foldl (fun cs (p : Value × Nat) => cs.setIfInBounds (i' * k + p.2) p.1) cells) := by
      rw [← Array.foldl_toList, Array.toList_zipIdx]
    have hsz : (v.cells.zipIdx.foldl (fun cs (c, j) => cs.setIfInBounds (i' * k + j) c) cells).size = cells.size := by rw [e, foldl_size]
    obtain ⟨cells', hf, ht⟩ := buildSlice_fill ps (i' + 1) (v.cells.zipIdx.foldl (fun cs (c, j) => cs.setIfInBounds (i' * k + j) c) cells) (fun j p hj => by
      have := hp (j + 1) p (by simpa using hj)
      exact ⟨by omega, this.2⟩) (by rw [hsz, hs]; congr 1; omega)
    refine ⟨cells', ?_, ?_⟩
    · unfold Instr.fill
      simp only
      rw [if_neg (by simp [h2]; omega)]
      exact hf
    · rw [ht, e, hset, Nat.succ_mul, List.append_assoc, List.take_append, List.flatMap_cons]
      have hl : (cells.toList.take (i' * k)).length = i' * k := by simp; omega
      rw [hl, List.take_of_length_le (by rw [hl]; omega), show i' * k + k - i' * k = k from by omega, List.append_assoc]
      congr 1
      rw [List.take_append, List.take_of_length_le (by simp [h2]), show k - v.cells.toList.length = 0 from by simp [h2]]
      simp

theorem range_get {n : Nat} {l : List Nat} (h : l = List.range n) (j : Nat) (x : Nat) (hx : l[j]? = some x) : x = j ∧ j < n := by
  subst h
  have hj : j < n := by have := (List.getElem?_eq_some_iff.1 hx).1; simpa using this
  rw [List.getElem?_range hj] at hx
  cases hx; exact ⟨rfl, hj⟩

theorem run_askRow (e : TypeId) (cells : Array Value) (w' : World) : (newRow e cells).run P w' = .ok ⟨w'.heap.size, 0, none⟩ (w'.alloc (.cells cells e)) := rfl

theorem bsl_run {t e : TypeId} {k n : Nat} (hu : P.underlying t = some (.slice e)) (hk : (P.info? e).map (·.size) = some k) (h24 : n * k ≤ 16777216) (hz : (zeroCells P e).isSome = true) (parts : Array (Nat × Operand)) (hn : parts.toList.map (·.1) = List.range n)
    (ρ : Operand → Value) (xs : List V) (hr : Reps S w (parts.toList.map fun p => ρ p.2) xs) (hx : ∀ x ∈ xs, x.cells.length = k) :
    ∃ cells : List Value, Reps S w cells (flatc xs) ∧ cells.length = n * k ∧ xs.length = n ∧ ∀ w' : World, (Instr.buildSlice t n (parts.map fun (i, x) => (i, ρ x))).run P w' = .ok (.slice (some ⟨w'.heap.size, 0, none⟩) n n) (w'.alloc (.cells cells.toArray e)) := by
  have hlen : parts.toList.length = n := by have := congrArg List.length hn; simpa using this
  have hxl : xs.length = n := by rw [← hr.1]; simpa using hlen
  let ps : List (Nat × Value) := parts.toList.map fun p => (p.1, ρ p.2)
  have hps : ∀ (j : Nat) p, ps[j]? = some p → p.1 = 0 + j ∧ p.2.cells.size = k := by
    intro j p hj
    simp only [ps, List.getElem?_map] at hj
    cases hp : parts.toList[j]? with
    | none => rw [hp] at hj; cases hj
    | some p0 =>
      rw [hp] at hj
      simp only [Option.map_some, Option.some.injEq] at hj
      subst hj
      have h1 := range_get hn j p0.1 (by rw [List.getElem?_map, hp]; rfl)
      have hxj : j < xs.length := by rw [hxl]; exact h1.2
      have h2 := hr.2 j (ρ p0.2) xs[j] (by rw [List.getElem?_map, hp]; rfl) (List.getElem?_eq_getElem hxj)
      have h3 := h2.cells.1
      rw [hx _ (List.getElem_mem hxj)] at h3
      exact ⟨by simpa using h1.1, by simpa using h3⟩
  have hflat : Reps S w (ps.flatMap fun p => p.2.cells.toList) (flatc xs) := by
    have key : ∀ (l : List Value) (ys : List V), Reps S w l ys → Reps S w (l.flatMap fun v => v.cells.toList) (flatc ys) := by
      intro l
      induction l with
      | nil =>
        intro ys h
        have : ys = [] := List.eq_nil_of_length_eq_zero (by simpa using h.1.symm)
        subst this; exact Reps.nil
      | cons v l ih =>
        intro ys h
        cases ys with
        | nil => exact absurd h.1 (by simp)
        | cons y ys => rw [List.flatMap_cons, flatc_cons]; exact h.head.cells.append (ih ys h.tail)
    have := key _ _ hr
    simpa [ps, List.flatMap_map] using this
  have hfl : (ps.flatMap fun p => p.2.cells.toList).length = n * k := by rw [hflat.1, flatc_length hx, hxl]
  refine ⟨_, hflat, hfl, hxl, fun w' => ?_⟩
  obtain ⟨i0, hi0, hk0⟩ : ∃ i0, P.info? e = some i0 ∧ i0.size = k := by
    cases h : P.info? e with
    | none => rw [h] at hk; cases hk
    | some i0 => rw [h] at hk; exact ⟨i0, rfl, by simpa using hk⟩
  obtain ⟨zv, hzv⟩ : ∃ zv, i0.zero = some zv := by
    unfold zeroCells at hz
    rw [hi0] at hz
    simp only [Option.bind_some] at hz
    cases h : i0.zero with
    | none => rw [h] at hz; cases hz
    | some zv => exact ⟨zv, rfl⟩
  have hfill := fun (cells : Array Value) (hc : cells.size = n * k) => buildSlice_fill (k := k) ps 0 cells hps (by simp [ps, hlen, hc])
  have e1 : (parts.map fun (i, x) => (i, ρ x)).toList = ps := by simp [ps]
  have hsz : (sizeOf e).run P w' = .ok k w' := by rw [run_sizeOf w' hi0]; simp [Program.cellsOf, hi0, hk0]
  have hzr : (zeroValue e).run P w' = .ok zv w' := by simp [zeroValue, typeInfo, hi0, hzv]
  by_cases h0 : n * k = 0
  · obtain ⟨cells', hf, ht⟩ := hfill ((Array.range (n * k)).map fun i => (#[] : Array Value)[i % (#[] : Array Value).size]!) (by simp)
    have : cells' = (ps.flatMap fun p => p.2.cells.toList).toArray := by apply Array.toList_inj.1; rw [ht]; simp
    subst this
    simp only [Instr.buildSlice, Sem.run_bind, run_underlying hu, Result.andThen_ok, hsz, e1]
    rw [if_neg (by omega : ¬ (n * k > 2 ^ 24)), if_pos h0]
    simp only [Sem.run_pure, Sem.run_bind, Result.andThen_ok, hf, run_askRow]
  · obtain ⟨cells', hf, ht⟩ := hfill ((Array.range (n * k)).map fun i => zv.cells[i % zv.cells.size]!) (by simp)
    have : cells' = (ps.flatMap fun p => p.2.cells.toList).toArray := by apply Array.toList_inj.1; rw [ht]; simp
    subst this
    simp only [Instr.buildSlice, Sem.run_bind, run_underlying hu, Result.andThen_ok, hsz, e1]
    rw [if_neg (by omega : ¬ (n * k > 2 ^ 24)), if_neg h0]
    simp only [Sem.run_pure, Sem.run_bind, Result.andThen_ok, hzr, hf, run_askRow]
end
end Go.VM
/-
  The walk through a quiet region, in the text's order and in any. No program is named here.
-/
namespace Go.VM
open Go.RowKit
variable [Glob]

section
variable {P : Program} {S : Nat → Prop} {w : World}

theorem qop_inv {op : Op} {p : XOp} {xs : List Operand} (h : qop P op = some (p, xs)) :
    p.plain = true ∨ (∃ f args tys, op = .call { callee := .value (.func f), args := args, argTypes := tys } ∧ p = .call false f ∧ xs = args.toList) ∨
    (∃ x args tys, op = .call { callee := .value x, args := args, argTypes := tys } ∧ p = .callv false ∧ xs = x :: args.toList) ∨
    (∃ t n ps k, op = .buildSlice t n ps ∧ elemCells P t = some k ∧ (n * k ≤ 16777216 ∧ 0 < k ∧ ps.toList.map (·.1) = List.range n ∧ (zeroCells P (P.elem t)).isSome = true) ∧ p = .bsl k ∧ xs = ps.toList.map (·.2)) := by
  unfold qop at h
  split at h
  case h_14 =>
    rename_i t n ps
    right; right; right
    cases hk : elemCells P t with
    | none => rw [hk] at h; cases h
    | some k =>
      rw [hk] at h
      simp only at h
      split at h
      · rename_i hc
        simp only [Option.some.injEq, Prod.mk.injEq] at h
        exact ⟨t, n, ps, k, rfl, hk, hc, h.1.symm, h.2.symm⟩
      · cases h
  case h_15 =>
    rename_i f args tys
    simp only [Option.some.injEq, Prod.mk.injEq] at h
    exact .inr (.inl ⟨f, args, tys, rfl, h.1.symm, h.2.symm⟩)
  case h_16 =>
    rename_i x args tys _
    simp only [Option.some.injEq, Prod.mk.injEq] at h
    exact .inr (.inr (.inl ⟨x, args, tys, rfl, h.1.symm, h.2.symm⟩))
  all_goals
    left
    revert h
    repeat' split
    all_goals (intro h; first | (cases h; done) | skip)
    all_goals first
      | (simp only [Option.some.injEq, Prod.mk.injEq] at h; rw [← h.1]; rfl)
      | skip
  all_goals simp only [Option.map_eq_some_iff, Option.bind_eq_some_iff, Option.ite_none_right_eq_some, Option.some.injEq, Prod.mk.injEq] at h
  · obtain ⟨ks, _, h, _⟩ := h; rw [← h]; rfl
  · obtain ⟨ks, _, h, _⟩ := h; rw [← h]; rfl
  · obtain ⟨f, _, _, h, _⟩ := h; rw [← h]; rfl
  · obtain ⟨f, _, _, h, _⟩ := h; rw [← h]; rfl
  · obtain ⟨z, _, qs, _, pl, _, h, _⟩ := h; rw [← h]; rfl
  · obtain ⟨z, _, ie, _, h, _⟩ := h; rw [← h]; rfl

theorem drawOp_plain {draw : Bool} {p p' : XOp} (h : drawOp draw p = some p') (hp : p.plain = true) : p' = p := by
  unfold drawOp at h
  split at h <;> first | (simp [XOp.plain] at hp; done) | (cases h; rfl)

section
variable {o : Orc} {env : Env} {isF : List QI} {a0 : Act} {E R : Nat → Prop} {defs : List (Tmp × Nat)} {is : List QI} {a : Act}

set_option maxHeartbeats 800000 in
theorem node_seq (ho : SoundO P o) {draw : Bool} (h : QInvE o env isF a0 E R (All w) defs is a w) (hl : (∀ n v, look env n = some v → ∃ u, a0.tmps[n]? = some u ∧ Rep (All w) w u v) ∧ GOK (All w) w) {op : Oper} {q : QI} (hq : qnode P draw defs is op = some q)
    (hsrc : srcsOk is q = true) (hg : GH o env isF q.g) (hE : ∀ s ∈ q.srcs, ∀ j, s = some j → E j) (hR : ∀ t ∈ slotsX q.x, R t) {v : V} (hv : evalX o env q.x = some v) :
    Outc P ((execOp a.eval op).run P w) fun u w1 => Below w.heap.size w w1 ∧ Rep (All w1) w1 u v := by
  rcases node_vals h hl hq hsrc hg hE hR hv with ⟨u, hu, hr⟩ | ⟨p, p', xs, vs, hp, hd, hr, hov⟩
  · rw [hr w]; exact ⟨Below.refl _ _, hu⟩
  · rcases qop_inv hp with hpl | ⟨f, args, tys, hop, rfl, rfl⟩ | ⟨x, args, tys, hop, rfl, rfl⟩ | ⟨t, n, ps, k, hop, hk, hc, rfl, rfl⟩
    · have := drawOp_plain hd hpl
      subst this
      obtain ⟨u, hu, hrun⟩ := qop_plain hp hpl a.eval op rfl vs v hr hov
      rw [hrun w fun _ _ => rfl]; exact ⟨Below.refl _ _, hu⟩
    · simp only [drawOp, Option.some.injEq] at hd
      subst hd
      have hov' : ((o f vs).bind fun r => if draw = true → r.uniq = true then some (frzt r) else none) = some v := by
        match vs, hov with
        | [], h => simpa [opQ] using h
        | [x], h => cases x <;> simpa [opQ] using h
        | [x, y], h => cases x <;> cases y <;> simpa [opQ] using h
        | x :: y :: _ :: _, h => cases x <;> simpa [opQ] using h
      cases hy : o f vs with
      | none => rw [hy] at hov'; cases hov'
      | some y =>
        rw [hy] at hov'
        simp only [Option.bind_some] at hov'
        split at hov'
        · cases hov'
          refine call_seq (us := args.toList.map a.eval) ho hy hl.2 hr ?_
          have := call_enter ho (ρ := a.eval) (fun _ => rfl) hop hy w
          rw [this]
          congr 2
          apply Array.toList_inj.1; simp
        · cases hov'
    · simp only [drawOp, Option.some.injEq] at hd
      subst hd
      have hov' : ((callV o vs).bind fun r => if draw = true → r.uniq = true then some (frzt r) else none) = some v := by
        match vs, hov with
        | [], h => simpa [opQ] using h
        | [x], h => cases x <;> simpa [opQ] using h
        | [x, y], h => cases x <;> cases y <;> simpa [opQ] using h
        | x :: y :: _ :: _, h => cases x <;> simpa [opQ] using h
      cases hy : callV o vs with
      | none => rw [hy] at hov'; cases hov'
      | some y =>
        rw [hy] at hov'
        simp only [Option.bind_some] at hov'
        split at hov'
        · cases hov'
          obtain ⟨f, us, zs, hz, hzr, hrun⟩ := callv_enter ho hop hr hy
          exact call_seq ho hz hl.2 hzr (hrun w)
        · cases hov'
    · have hp' : p' = .bsl k := by
        cases draw with
        | true => simp [drawOp] at hd
        | false => simpa [drawOp] using hd.symm
      subst hp'
      have hov' : (if vs.all (fun x => x.cells.length == k && x.cells.all V.cell) then some (V.l vs) else none) = some v := by
        match vs, hov with
        | [], h => simpa [opQ] using h
        | [x], h => cases x <;> simpa [opQ] using h
        | [x, y], h => cases x <;> cases y <;> simpa [opQ] using h
        | x :: y :: _ :: _, h => cases x <;> simpa [opQ] using h
      split at hov'
      · rename_i hall
        cases hov'
        have hall1 : ∀ x ∈ vs, x.cells.length = k := fun x hx => by
          have := List.all_eq_true.1 hall x hx
          simp only [Bool.and_eq_true, beq_iff_eq] at this
          exact this.1
        have hall2 : ∀ x ∈ flatc vs, x.cell = true := fun x hx => by
          obtain ⟨e, he, hx⟩ := List.mem_flatMap.1 hx
          have := List.all_eq_true.1 hall e he
          simp only [Bool.and_eq_true, beq_iff_eq] at this
          exact List.all_eq_true.1 this.2 x hx
        obtain ⟨e, hu⟩ : ∃ e, P.underlying t = some (.slice e) := by
          unfold elemCells at hk
          split at hk
          · rename_i e hu; exact ⟨e, hu⟩
          · cases hk
        have hk' : (P.info? e).map (·.size) = some k := by simpa [elemCells, hu] using hk
        have hel : P.elem t = e := by simp [Program.elem, hu]
        rw [hel] at hc
        obtain ⟨cells, hcr, hcl, hn, hrun⟩ := bsl_run (w := w) hu hk' hc.1 hc.2.2.2 ps hc.2.2.1 a.eval vs (by simpa [List.map_map, Function.comp_def] using hr) hall1
        have hx : (execOp a.eval op).run P w = .ok (.value (.slice (some ⟨w.heap.size, 0, none⟩) n n)) (w.alloc (.cells cells.toArray e)) := by
          have := hrun w
          simp only [execOp, hop, Sem.run_bind, this, Result.andThen_ok, Sem.run_pure]
        rw [hx]
        refine ⟨(Below.refl _ _).alloc (Nat.le_refl _) _, ?_⟩
        rw [← hn]
        refine Rep.mk_slice hall1 hall2 (vs := cells) ?_ (Nat.le_refl _) (.inr ⟨_, rfl, ?_, fun j u hj => ?_⟩)
        · exact hcr.move (fun b hb => Nat.lt_of_lt_of_le hb (by simp)) fun p hp => World.cell?_alloc_lt w _ p hp
        · simp [All]
        · have hh : (w.alloc (.cells cells.toArray e)).heap[w.heap.size]? = some (.cells cells.toArray e (0, 0)) := heap_alloc_new w _
          simp only [World.cell?, add_block, hh]
          unfold Addr.add
          split
          · rename_i hj0; subst hj0; simpa using hj
          · simpa using hj
      · cases hov'

theorem node_quiet (ho : SoundO P o) (hS : ∀ b, S b → b < w.heap.size) (h : QInv o env isF a0 S defs is a w) (hl : (∀ n v, look env n = some v → ∃ u, a0.tmps[n]? = some u ∧ Rep S w u v) ∧ GOK S w) {op : Oper} {q : QI} (hq : qnode P true defs is op = some q)
    (hsrc : srcsOk is q = true) (hg : GH o env isF q.g) {v : V} (hv : evalX o env q.x = some v) :
    ∃ u, Rep S w u v ∧ ∀ w', Below w.heap.size w w' → Oper.quietUpon P (Below w.heap.size w) w' u ((execOp a.eval op).run P w') := by
  rcases node_vals h hl hq hsrc hg (fun _ _ _ _ => trivial) (fun _ _ => trivial) hv with ⟨u, hu, hr⟩ | ⟨p, p', xs, vs, hp, hd, hr, hov⟩
  · exact ⟨u, hu, fun w' _ => by rw [hr w']; exact ⟨rfl, rfl⟩⟩
  · rcases qop_inv hp with hpl | ⟨f, args, tys, hop, rfl, rfl⟩ | ⟨x, args, tys, hop, rfl, rfl⟩ | ⟨t, n, ps, k, hop, hk, hc, rfl, rfl⟩
    · have := drawOp_plain hd hpl
      subst this
      obtain ⟨u, hu, hrun⟩ := qop_plain hp hpl a.eval op rfl vs v hr hov
      exact ⟨u, hu, fun w' hb => by rw [hrun w' fun p hp => hb.cell (hS _ hp)]; exact ⟨rfl, rfl⟩⟩
    · simp only [drawOp, Option.some.injEq] at hd
      subst hd
      have hov' : ((o f vs).bind fun r => if true = true → r.uniq = true then some (frzt r) else none) = some v := by
        match vs, hov with
        | [], h => simpa [opQ] using h
        | [x], h => cases x <;> simpa [opQ] using h
        | [x, y], h => cases x <;> cases y <;> simpa [opQ] using h
        | x :: y :: _ :: _, h => cases x <;> simpa [opQ] using h
      cases hy : o f vs with
      | none => rw [hy] at hov'; cases hov'
      | some y =>
        rw [hy] at hov'
        simp only [Option.bind_some] at hov'
        split at hov'
        · rename_i hun
          cases hov'
          refine call_quiet (us := args.toList.map a.eval) ho hy (hun trivial) hS hl.2 hr fun w' => ?_
          have := call_enter ho (ρ := a.eval) (fun _ => rfl) hop hy w'
          rw [this]
          congr 2
          apply Array.toList_inj.1; simp
        · cases hov'
    · simp only [drawOp, Option.some.injEq] at hd
      subst hd
      have hov' : ((callV o vs).bind fun r => if true = true → r.uniq = true then some (frzt r) else none) = some v := by
        match vs, hov with
        | [], h => simpa [opQ] using h
        | [x], h => cases x <;> simpa [opQ] using h
        | [x, y], h => cases x <;> cases y <;> simpa [opQ] using h
        | x :: y :: _ :: _, h => cases x <;> simpa [opQ] using h
      cases hy : callV o vs with
      | none => rw [hy] at hov'; cases hov'
      | some y =>
        rw [hy] at hov'
        simp only [Option.bind_some] at hov'
        split at hov'
        · rename_i hun
          cases hov'
          obtain ⟨f, us, zs, hz, hzr, hrun⟩ := callv_enter ho hop hr hy
          exact call_quiet ho hz (hun trivial) hS hl.2 hzr hrun
        · cases hov'
    · simp [drawOp] at hd
end
end
end Go.VM
