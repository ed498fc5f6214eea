/-
  Steps: the store as the evaluator has it; appends. No program is named here.
-/
import Derived.Test.YtonibcnbcnibeaaVm9g
namespace Go.VM
open Go.RowKit

section
variable {P : Program} {nt : Nat} {keep : List Nat} {S : Nat → Prop} {base : Nat} {w0 : World} {env env' : Env} {a : Act} {w : World} {o : Orc}

theorem src_tmp {x : Operand} {n : Nat} (hs : src x = some (.t n)) : x = .tmp n := by
  cases x with
  | tmp n' => simp only [src, Option.some.injEq, Src.t.injEq] at hs; subst hs; rfl
  | const c => simp only [src] at hs; cases hc : ofConst c <;> rw [hc] at hs <;> cases hs
  | func f => simp [src] at hs
  | global g => simp [src] at hs

/-- A store. -/
theorem step_sto (hF : FI P nt keep S base w0 env a w) {t : TypeId} {x v : Operand} {s sv : Src} {oper : Oper} (hop : oper.op = .store t x v) (hs : src x = some s) (hsv : src v = some sv)
    (hst : stepS o env (.sto (P.cellsOf t) s sv) = some env') (hpos : 0 < P.cellsOf t) : ∃ w1, (execOp a.eval oper).run P w = .ok .skip w1 ∧ FI P nt keep S base w0 env' a w1 := by
  cases s with
  | c c0 => simp [stepS] at hst
  | t n =>
    have := src_tmp hs
    subst this
    simp only [stepS] at hst
    cases hl : lookS env sv with
    | none => rw [hl] at hst; cases hst
    | some y =>
      rw [hl] at hst
      simp only [Option.bind_some] at hst
      split at hst
      · rename_i hy
        have hF' := hF.freeze [sv]
        have hl' : lookS (freeze env [sv]) sv = some y := by
          have h := lookSs_freeze [sv] env [sv]
          simp only [lookSs, hl, Option.bind_some] at h
          cases h' : lookS (freeze env [sv]) sv with
          | none => rw [h'] at h; cases h
          | some v' => rw [h'] at h; simp only [Option.bind_some, Option.some.injEq, List.cons.injEq, and_true] at h; rw [h]
        have hv : ∀ Im : Nat → Prop, Ents P Im w base (freeze env [sv]) (tm a) → Rep Im w (a.eval v) y := fun Im hE => src_loose hE hsv ((loose_freeze [sv] env).2 sv (List.mem_cons_self ..)) hl'
        obtain ⟨Im0, _, _, hE0⟩ := hF'.ents
        cases hx : get n (freeze env [sv]) with
        | none => rw [hx] at hst; cases hst
        | some z =>
          rw [hx] at hst
          simp only [Option.bind_some] at hst
          obtain ⟨u, hun, hent⟩ := hE0.ent n z hx
          have whole : ∀ (cs : List V), cs.length = P.cellsOf t → splice cs 0 y.cells = y.cells := fun cs hc => by
            unfold splice
            rw [List.take_zero, List.nil_append, Nat.zero_add, List.drop_eq_nil_of_le (by omega), List.append_nil]
          cases z with
          | bx cs =>
            simp only at hst
            split at hst
            · rename_i hc
              cases hst
              obtain ⟨⟨g, vs, ty, rfl, _⟩, _⟩ := hent
              have h := store_box hF' hop hpos hv hy.1 hy.2 hx hun (off := 0) (by rw [eval_tmp hun]; simp [Addr.add]) (by omega)
              rwa [whole cs hc] at h
            · cases hst
          | al m =>
            simp only at hst
            cases hz : get m (freeze env [sv]) with
            | none => rw [hz] at hst; cases hst
            | some z =>
              rw [hz] at hst
              simp only [Option.bind_some] at hst
              cases z <;> first | (cases hst; done) | skip
              rename_i cs
              simp only at hst
              split at hst
              · rename_i hc
                cases hst
                have hm : tm a m = some u := hent
                obtain ⟨u', hu', hez⟩ := hE0.ent m _ hz
                have := hm.symm.trans hu'; cases this
                obtain ⟨⟨g, vs, ty, rfl, _⟩, _⟩ := hez
                have h := store_box hF' hop hpos hv hy.1 hy.2 hz hm (off := 0) (by rw [eval_tmp hun]; simp [Addr.add]) (by omega)
                rwa [whole cs hc] at h
              · cases hst
          | pb m off k =>
            simp only at hst
            split at hst
            · cases hz : get m (freeze env [sv]) with
              | none => rw [hz] at hst; cases hst
              | some z =>
                rw [hz] at hst
                simp only [Option.bind_some] at hst
                cases z <;> first | (cases hst; done) | skip
                rename_i cs
                simp only at hst
                split at hst
                · rename_i hc
                  cases hst
                  obtain ⟨ad, hm, rfl⟩ := hent
                  exact store_box hF' hop hpos hv hy.1 hy.2 hz hm (eval_tmp hun) hc
                · cases hst
            · cases hst
          | pe m i off k =>
            simp only at hst
            split at hst
            · cases hz : get m (freeze env [sv]) with
              | none => rw [hz] at hst; cases hst
              | some z =>
                rw [hz] at hst
                simp only [Option.bind_some] at hst
                cases z <;> first | (cases hst; done) | skip
                rename_i e0 es
                simp only at hst
                cases he : es[i]? with
                | none => rw [he] at hst; cases hst
                | some e =>
                  rw [he] at hst
                  simp only [Option.bind_some] at hst
                  split at hst
                  · rename_i hc
                    cases hst
                    obtain ⟨ad, l, c, kk, hm, rfl, h3⟩ := hent
                    exact store_row hF' hop hv hy.1 hy.2 hz hm (eval_tmp hun) (h3 _ es hz rfl) he hc.1 hc.2
                  · cases hst
            · cases hst
          | _ => cases hst
      · cases hst

/-- A slice that is read, wherever it lies: what lies in its elements is read by all. -/
theorem look_row {Im : Nat → Prop} (hE : Ents P Im w base env (tm a)) {n : Nat} {es : List V} (hv : look env n = some (.l es)) :
    ∃ (ad : Option Addr) (c : Nat) (vs : List Value), tm a n = some (.slice ad es.length c) ∧ Reps Im w vs (flatc es) ∧ (∀ x ∈ flatc es, x.cell = true) ∧ (es = [] ∨ ∃ a0, ad = some a0 ∧ ∀ (j : Nat) u, vs[j]? = some u → w.cell? (a0.add j) = some u) := by
  have row : ∀ {m : Nat} {x : V}, get m env = some x → rd x = some (.l es) → ∃ (ad : Option Addr) (c : Nat) (vs : List Value), tm a m = some (.slice ad es.length c) ∧ Reps Im w vs (flatc es) ∧ (∀ x ∈ flatc es, x.cell = true) ∧ (es = [] ∨ ∃ a0, ad = some a0 ∧ ∀ (j : Nat) u, vs[j]? = some u → w.cell? (a0.add j) = some u) := by
    intro m x hx hr
    obtain ⟨hs, hf⟩ := rd_some hr
    obtain ⟨u, hu, he⟩ := hE.ent m x hx
    rw [Ent.res1 hs] at he
    by_cases hne : es = []
    · subst hne
      cases x with
      | l es' =>
        simp only [frz, V.l.injEq] at hf
        subst hf
        obtain ⟨ad, c, _, vs, rfl, _, h1, h2, _, _⟩ := Rep.slice he
        exact ⟨ad, c, vs, hu, h2, h1, .inl rfl⟩
      | ow e es' =>
        simp only [frz, V.l.injEq] at hf
        subst hf
        obtain ⟨⟨vs, ⟨hl, hv⟩, _, h1, h2⟩, _⟩ := he
        rcases hv with ⟨rfl, _⟩ | ⟨g, cap, cur, rfl, _⟩
        · exact ⟨none, 0, vs, hu, h2, h1, .inl rfl⟩
        · exact ⟨_, cap, vs, hu, h2, h1, .inl rfl⟩
      | _ => simp [frz] at hf
    · obtain ⟨ad, c, k, vs, rfl, _, hc, hr, hcell⟩ := slot_row he hf.symm hne
      exact ⟨some ad, c, vs, hu, hr, hc, .inr ⟨ad, rfl, hcell⟩⟩
  unfold look at hv
  cases hx : get n env with
  | none => rw [hx] at hv; cases hv
  | some x =>
    rw [hx] at hv
    cases x with
    | al m =>
      simp only at hv
      obtain ⟨u, hu, he⟩ := hE.ent n _ hx
      cases hm : get m env with
      | none => rw [hm] at hv; cases hv
      | some y =>
        rw [hm] at hv
        obtain ⟨ad, c, vs, h1, h⟩ := row hm hv
        have : tm a m = some u := he
        have := this.symm.trans h1; cases this
        exact ⟨ad, c, vs, hu, h⟩
    | pe m i off sz =>
      simp only at hv
      cases hz : (get m env).bind rd with
      | none => rw [hz] at hv; cases hv
      | some z =>
        rw [hz] at hv
        cases z <;> first | (cases hv; done) | skip
        simp only [Option.bind_eq_some_iff, Option.map_eq_some_iff] at hv
        obtain ⟨_, _, _, _, h⟩ := hv
        cases h
    | pb m off sz =>
      simp only at hv
      cases hz : (get m env).bind rd with
      | none => rw [hz] at hv; cases hv
      | some z =>
        rw [hz] at hv
        cases z <;> first | (cases hv; done) | skip
        simp only [Option.map_eq_some_iff] at hv
        obtain ⟨_, _, h⟩ := hv
        cases h
    | _ => exact row hx hv
theorem lookS_row {Im : Nat → Prop} (hE : Ents P Im w base env (tm a)) {x : Operand} {s : Src} (hs : src x = some s) {es : List V} (hv : lookS env s = some (.l es)) :
    ∃ (ad : Option Addr) (c : Nat) (vs : List Value), a.eval x = .slice ad es.length c ∧ Reps Im w vs (flatc es) ∧ (∀ x ∈ flatc es, x.cell = true) ∧ (es = [] ∨ ∃ a0, ad = some a0 ∧ ∀ (j : Nat) u, vs[j]? = some u → w.cell? (a0.add j) = some u) := by
  cases s with
  | t n =>
    have := src_tmp hs
    subst this
    obtain ⟨ad, c, vs, h1, h⟩ := look_row hE hv
    exact ⟨ad, c, vs, eval_tmp h1, h⟩
  | c c0 =>
    have hr := src_loose hE hs (fun m x hm => by simp [owner] at hm) hv
    have hes : es = [] := by
      cases x with
      | tmp n => simp [src] at hs
      | const c =>
        simp only [src] at hs
        cases hc : ofConst c with
        | none => rw [hc] at hs; cases hs
        | some c' =>
          rw [hc] at hs
          cases hs
          simp only [lookS, Option.some.injEq] at hv
          rw [(ofConst_kind hc).2.2] at hv
          subst hv
          unfold ofConst at hc
          split at hc
          · rename_i cs'; cases h : ofCells cs'.toList <;> rw [h] at hc <;> cases hc
          · unfold ofCell at hc
            split at hc <;> cases hc
            rfl
      | func f => simp only [src, Option.some.injEq, Src.c.injEq] at hs; subst hs; simp [lookS, frz] at hv
      | global g => simp [src] at hs
    subst hes
    obtain ⟨ad, c, _, vs, h0, _, h1, h2, _, _⟩ := hr.slice
    exact ⟨ad, c, vs, h0, h2, h1, .inl rfl⟩

theorem append_run {t e : TypeId} {i : TypeInfo} {z : Value} {size bytes : Nat} (ht : P.underlying t = some (.slice e)) (hi : P.info? e = some i) (hz : i.zero = some z) (hsize : i.size = size) (hby : i.bytes = bytes) (hzs : z.cells.size = size) (hsz : 0 < size)
    (ty : TypeId) {v : Value} {n : Nat} {xs : List Value} (hown : w.ownsRow base e size v n xs) {ad : Option Addr} {m c : Nat} {news : List Value} (hl : news.length = m * size) (hnews : m = 0 ∨ ∃ a0, ad = some a0 ∧ ∀ (j : Nat) u, news[j]? = some u → w.cell? (a0.add j) = some u) (h1 : ∀ u ∈ news, u.oneCell' = true)
    (h63 : n + m ≤ maxLen) (hbytes : (n + m) * bytes ≤ 140737488355328) (hbase : base ≤ w.heap.size) :
    ∃ v' w', (Builtin.append_ #[t, t] ty #[v, .slice ad m c]).run P w = .ok v' w' ∧ w'.ownsRow base e size v' (n + m) (xs ++ news) ∧ w.grownBy w' v.ownBlock ∧ (v'.ownBlock = v.ownBlock ∨ v'.ownBlock = some w.heap.size) := by
  cases ad with
  | some a0 =>
    obtain ⟨v', w', h2, h3, h4, _, h5⟩ := run_append_own_at (P := P) w base t ty e i z size bytes ht hi hz hsize hby hzs hsz v n xs hown a0 m c news hl (by
      rcases hnews with rfl | ⟨a1, h, hc⟩
      · have : news = [] := List.eq_nil_of_length_eq_zero (by simpa using hl)
        subst this; simp
      · cases h; exact hc) h1 h63 hbytes hbase
    exact ⟨v', w', h2, h3, h4, h5⟩
  | none =>
    have hm : m = 0 := by
      rcases hnews with rfl | ⟨a1, h, _⟩
      · rfl
      · cases h
    subst hm
    have : news = [] := List.eq_nil_of_length_eq_zero (by simpa using hl)
    subst this
    refine ⟨v, w, ?_, by simpa using hown, ⟨rfl, rfl, rfl, Nat.le_refl _, fun _ _ _ => rfl⟩, .inl rfl⟩
    rcases hown.2 with ⟨rfl, rfl⟩ | ⟨g, cap, cur, rfl, _, _, hnc, _⟩
    · simp [Builtin.append_, run_underlying ht, sizeOf, typeInfo, hi, Builtin.lenOf, Builtin.firstCells]
    · simp [Builtin.append_, run_underlying ht, sizeOf, typeInfo, hi, Builtin.lenOf, Builtin.firstCells, hnc, storeCells]
end
end Go.VM
