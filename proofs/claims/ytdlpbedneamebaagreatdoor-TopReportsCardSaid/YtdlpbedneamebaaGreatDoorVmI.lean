/-
  Steps: the store as the evaluator has it; appends. No program is named here.
-/
import Derived.Test.YtdlpbedneamebaaGreatDoorVmH
import Derived.Lib.ConvBytes
import Derived.MapKept
set_option linter.unusedSectionVars false
namespace Go.VM
open Go.RowKit
variable [Glob]

section
variable {P : Program} {nt : Nat} {keep : List Nat} {S : Nat → Prop} {base : Nat} {w0 : World} {env env' : Env} {a : Act} {w : World} {o : Orc}

theorem src_tmp {x : Operand} {n : Nat} (hs : src x = some (.t n)) : x = .tmp n := by
  cases x with
  | tmp n' => simp only [src, Option.some.injEq, Src.t.injEq] at hs; subst hs; rfl
  | const c => simp only [src] at hs; cases hc : ofConst c <;> rw [hc] at hs <;> cases hs
  | func f => simp [src] at hs
  | global g => simp only [src] at hs; cases hc : globV g <;> rw [hc] at hs <;> cases hs

theorem step_sto (hF : FI P nt keep S base w0 env a w) {t : TypeId} {x v : Operand} {s sv : Src} {oper : Oper} (hop : oper.op = .store t x v) (hs : src x = some s) (hsv : src v = some sv)
    (hst : stepS o env (.sto (P.cellsOf t) s sv) = some env') (hpos : 0 < P.cellsOf t) : ∃ w1, (execOp a.eval oper).run P w = .ok .skip w1 ∧ FI P nt keep S base w0 env' a w1 := by
  cases s with
  | c c0 => simp [stepS] at hst
  | t n =>
    have := src_tmp hs
    subst this
    simp only [stepS] at hst
    cases hl : lookS env sv with
    | none => rw [hl] at hst; cases hst
    | some y =>
      rw [hl] at hst
      simp only [Option.bind_some] at hst
      split at hst
      · rename_i hy
        have hF' := hF.freeze [sv]
        have hl' : lookS (freeze env [sv]) sv = some y := by
          have h := lookSs_freeze [sv] env [sv]
          simp only [lookSs, hl, Option.bind_some] at h
          cases h' : lookS (freeze env [sv]) sv with
          | none => rw [h'] at h; cases h
          | some v' => rw [h'] at h; simp only [Option.bind_some, Option.some.injEq, List.cons.injEq, and_true] at h; rw [h]
        have hv : ∀ Im : Nat → Prop, Ents P Im w base (freeze env [sv]) (tm a) → Rep Im w (a.eval v) y := fun Im hE => src_loose hE hsv ((loose_freeze [sv] env).2 sv (List.mem_cons_self ..)) hl'
        obtain ⟨Im0, _, _, hE0⟩ := hF'.ents
        cases hx : get n (freeze env [sv]) with
        | none => rw [hx] at hst; cases hst
        | some z =>
          rw [hx] at hst
          simp only [Option.bind_some] at hst
          obtain ⟨u, hun, hent⟩ := hE0.ent n z hx
          have whole : ∀ (cs : List V), cs.length = P.cellsOf t → splice cs 0 y.cells = y.cells := fun cs hc => by
            unfold splice
            rw [List.take_zero, List.nil_append, Nat.zero_add, List.drop_eq_nil_of_le (by omega), List.append_nil]
          cases z with
          | bx cs =>
            simp only at hst
            split at hst
            · rename_i hc
              cases hst
              obtain ⟨⟨g, vs, ty, rfl, _⟩, _⟩ := hent
              have h := store_box hF' hop hpos hv hy.1 hy.2 hx hun (off := 0) (by rw [eval_tmp hun]; simp [Addr.add]) (by omega)
              rwa [whole cs hc] at h
            · cases hst
          | al m =>
            simp only at hst
            cases hz : get m (freeze env [sv]) with
            | none => rw [hz] at hst; cases hst
            | some z =>
              rw [hz] at hst
              simp only [Option.bind_some] at hst
              cases z <;> first | (cases hst; done) | skip
              rename_i cs
              simp only at hst
              split at hst
              · rename_i hc
                cases hst
                have hm : tm a m = some u := hent
                obtain ⟨u', hu', hez⟩ := hE0.ent m _ hz
                have := hm.symm.trans hu'; cases this
                obtain ⟨⟨g, vs, ty, rfl, _⟩, _⟩ := hez
                have h := store_box hF' hop hpos hv hy.1 hy.2 hz hm (off := 0) (by rw [eval_tmp hun]; simp [Addr.add]) (by omega)
                rwa [whole cs hc] at h
              · cases hst
          | pb m off k =>
            simp only at hst
            split at hst
            · cases hz : get m (freeze env [sv]) with
              | none => rw [hz] at hst; cases hst
              | some z =>
                rw [hz] at hst
                simp only [Option.bind_some] at hst
                cases z <;> first | (cases hst; done) | skip
                rename_i cs
                simp only at hst
                split at hst
                · rename_i hc
                  cases hst
                  obtain ⟨ad, hm, rfl⟩ := hent
                  exact store_box hF' hop hpos hv hy.1 hy.2 hz hm (eval_tmp hun) hc
                · cases hst
            · cases hst
          | pe m i off k =>
            simp only at hst
            split at hst
            · cases hz : get m (freeze env [sv]) with
              | none => rw [hz] at hst; cases hst
              | some z =>
                rw [hz] at hst
                simp only [Option.bind_some] at hst
                cases z <;> first | (cases hst; done) | skip
                rename_i e0 es
                simp only at hst
                cases he : es[i]? with
                | none => rw [he] at hst; cases hst
                | some e =>
                  rw [he] at hst
                  simp only [Option.bind_some] at hst
                  split at hst
                  · rename_i hc
                    cases hst
                    obtain ⟨ad, l, c, kk, hm, rfl, h3⟩ := hent
                    exact store_row hF' hop hv hy.1 hy.2 hz hm (eval_tmp hun) (h3 _ es hz rfl) he hc.1 hc.2
                  · cases hst
            · cases hst
          | _ => cases hst
      · cases hst

theorem look_row {Im : Nat → Prop} (hE : Ents P Im w base env (tm a)) {n : Nat} {es : List V} (hv : look env n = some (.l es)) :
    ∃ (ad : Option Addr) (c : Nat) (vs : List Value), tm a n = some (.slice ad es.length c) ∧ Reps Im w vs (flatc es) ∧ (∀ x ∈ flatc es, x.cell = true) ∧ (es = [] ∨ ∃ a0, ad = some a0 ∧ ∀ (j : Nat) u, vs[j]? = some u → w.cell? (a0.add j) = some u) := by
  have row : ∀ {m : Nat} {x : V}, get m env = some x → rd x = some (.l es) → ∃ (ad : Option Addr) (c : Nat) (vs : List Value), tm a m = some (.slice ad es.length c) ∧ Reps Im w vs (flatc es) ∧ (∀ x ∈ flatc es, x.cell = true) ∧ (es = [] ∨ ∃ a0, ad = some a0 ∧ ∀ (j : Nat) u, vs[j]? = some u → w.cell? (a0.add j) = some u) := by
    intro m x hx hr
    obtain ⟨hs, hf⟩ := rd_some hr
    obtain ⟨u, hu, he⟩ := hE.ent m x hx
    rw [Ent.res1 hs] at he
    by_cases hne : es = []
    · subst hne
      cases x with
      | l es' =>
        simp only [frz, V.l.injEq] at hf
        subst hf
        obtain ⟨ad, c, _, vs, rfl, _, h1, h2, _, _⟩ := Rep.slice he
        exact ⟨ad, c, vs, hu, h2, h1, .inl rfl⟩
      | ow e es' =>
        simp only [frz, V.l.injEq] at hf
        subst hf
        obtain ⟨⟨vs, ⟨hl, hv⟩, _, h1, h2⟩, _⟩ := he
        rcases hv with ⟨rfl, _⟩ | ⟨g, cap, cur, rfl, _⟩
        · exact ⟨none, 0, vs, hu, h2, h1, .inl rfl⟩
        · exact ⟨_, cap, vs, hu, h2, h1, .inl rfl⟩
      | _ => simp [frz] at hf
    · obtain ⟨ad, c, k, vs, rfl, _, hc, hr, hcell⟩ := slot_row he hf.symm hne
      exact ⟨some ad, c, vs, hu, hr, hc, .inr ⟨ad, rfl, hcell⟩⟩
  unfold look at hv
  cases hx : get n env with
  | none => rw [hx] at hv; cases hv
  | some x =>
    rw [hx] at hv
    cases x with
    | al m =>
      simp only at hv
      obtain ⟨u, hu, he⟩ := hE.ent n _ hx
      cases hm : get m env with
      | none => rw [hm] at hv; cases hv
      | some y =>
        rw [hm] at hv
        obtain ⟨ad, c, vs, h1, h⟩ := row hm hv
        have : tm a m = some u := he
        have := this.symm.trans h1; cases this
        exact ⟨ad, c, vs, hu, h⟩
    | pe m i off sz =>
      simp only at hv
      cases hz : (get m env).bind rd with
      | none => rw [hz] at hv; cases hv
      | some z =>
        rw [hz] at hv
        cases z <;> first | (cases hv; done) | skip
        simp only [Option.bind_eq_some_iff, Option.map_eq_some_iff] at hv
        obtain ⟨_, _, _, _, h⟩ := hv
        cases h
    | pb m off sz =>
      simp only at hv
      cases hz : (get m env).bind rd with
      | none => rw [hz] at hv; cases hv
      | some z =>
        rw [hz] at hv
        cases z <;> first | (cases hv; done) | skip
        simp only [Option.map_eq_some_iff] at hv
        obtain ⟨_, _, h⟩ := hv
        cases h
    | _ => exact row hx hv
theorem lookS_row {Im : Nat → Prop} (hE : Ents P Im w base env (tm a)) {x : Operand} {s : Src} (hs : src x = some s) {es : List V} (hv : lookS env s = some (.l es)) :
    ∃ (ad : Option Addr) (c : Nat) (vs : List Value), a.eval x = .slice ad es.length c ∧ Reps Im w vs (flatc es) ∧ (∀ x ∈ flatc es, x.cell = true) ∧ (es = [] ∨ ∃ a0, ad = some a0 ∧ ∀ (j : Nat) u, vs[j]? = some u → w.cell? (a0.add j) = some u) := by
  cases s with
  | t n =>
    have := src_tmp hs
    subst this
    obtain ⟨ad, c, vs, h1, h⟩ := look_row hE hv
    exact ⟨ad, c, vs, eval_tmp h1, h⟩
  | c c0 =>
    have hr := src_loose hE hs (fun m x hm => by simp [owner] at hm) hv
    have hes : es = [] := by
      cases x with
      | tmp n => simp [src] at hs
      | const c =>
        simp only [src] at hs
        cases hc : ofConst c with
        | none => rw [hc] at hs; cases hs
        | some c' =>
          rw [hc] at hs
          cases hs
          simp only [lookS, Option.some.injEq] at hv
          rw [(ofConst_kind hc).2.2] at hv
          subst hv
          unfold ofConst at hc
          split at hc
          · rename_i cs'; cases h : ofCells cs'.toList <;> rw [h] at hc <;> cases hc
          · unfold ofCell at hc
            split at hc <;> cases hc
            rfl
      | func f => simp only [src, Option.some.injEq, Src.c.injEq] at hs; subst hs; simp [lookS, frz] at hv
      | global g => simp only [src] at hs; cases hc : globV g with
        | none => rw [hc] at hs; cases hs
        | some c' =>
          rw [hc] at hs
          cases hs
          obtain ⟨cs', rfl⟩ := globV_kind hc
          simp [lookS, frz] at hv
    subst hes
    obtain ⟨ad, c, _, vs, h0, _, h1, h2, _, _⟩ := hr.slice
    exact ⟨ad, c, vs, h0, h2, h1, .inl rfl⟩

theorem append_run {t e : TypeId} {i : TypeInfo} {z : Value} {size bytes : Nat} (ht : P.underlying t = some (.slice e)) (hi : P.info? e = some i) (hz : i.zero = some z) (hsize : i.size = size) (hby : i.bytes = bytes) (hzs : z.cells.size = size) (hsz : 0 < size)
    (ty : TypeId) {v : Value} {n : Nat} {xs : List Value} (hown : w.ownsRow base e size v n xs) {ad : Option Addr} {m c : Nat} {news : List Value} (hl : news.length = m * size) (hnews : m = 0 ∨ ∃ a0, ad = some a0 ∧ ∀ (j : Nat) u, news[j]? = some u → w.cell? (a0.add j) = some u) (h1 : ∀ u ∈ news, u.oneCell' = true)
    (h63 : n + m ≤ maxLen) (hbytes : (n + m) * bytes ≤ 140737488355328) (hbase : base ≤ w.heap.size) :
    ∃ v' w', (Builtin.append_ #[t, t] ty #[v, .slice ad m c]).run P w = .ok v' w' ∧ w'.ownsRow base e size v' (n + m) (xs ++ news) ∧ w.grownBy w' v.ownBlock ∧ (v'.ownBlock = v.ownBlock ∨ v'.ownBlock = some w.heap.size) := by
  cases ad with
  | some a0 =>
    obtain ⟨v', w', h2, h3, h4, _, h5⟩ := run_append_own_at (P := P) w base t ty e i z size bytes ht hi hz hsize hby hzs hsz v n xs hown a0 m c news hl (by
      rcases hnews with rfl | ⟨a1, h, hc⟩
      · have : news = [] := List.eq_nil_of_length_eq_zero (by simpa using hl)
        subst this; simp
      · cases h; exact hc) h1 h63 hbytes hbase
    exact ⟨v', w', h2, h3, h4, h5⟩
  | none =>
    have hm : m = 0 := by
      rcases hnews with rfl | ⟨a1, h, _⟩
      · rfl
      · cases h
    subst hm
    have : news = [] := List.eq_nil_of_length_eq_zero (by simpa using hl)
    subst this
    refine ⟨v, w, ?_, by simpa using hown, ⟨rfl, rfl, rfl, Nat.le_refl _, fun _ _ _ => rfl⟩, .inl rfl⟩
    rcases hown.2 with ⟨rfl, rfl⟩ | ⟨g, cap, cur, rfl, _, _, hnc, _⟩
    · simp [Builtin.append_, run_underlying ht, sizeOf, typeInfo, hi, Builtin.lenOf, Builtin.firstCells]
    · simp [Builtin.append_, run_underlying ht, sizeOf, typeInfo, hi, Builtin.lenOf, Builtin.firstCells, hnc, storeCells]
end
end Go.VM
/-
  Steps: appends and calls. No program is named here.
-/
namespace Go.VM
open Go.RowKit
variable [Glob]

section
variable {P : Program} {nt : Nat} {keep : List Nat} {S : Nat → Prop} {base : Nat} {w0 : World} {env env' : Env} {a : Act} {w : World} {o : Orc}

theorem Ents.keepW {Im : Nat → Prop} {T : Tm} {w' : World} (h : Ents P Im w base env T) (hI : ∀ b, Im b → w'.heap[b]? = w.heap[b]?) (hO : ∀ m c g, Owns env T m c g → w'.heap[g]? = w.heap[g]?) : Ents P Im w' base env T := by
  refine ⟨fun n x hx => ?_, h.closed, h.apart, h.glob.move (fun _ h => h) fun p hp => by simp only [World.cell?, hI _ hp]⟩
  obtain ⟨u, hu, he⟩ := h.ent n x hx
  refine ⟨u, hu, ?_⟩
  by_cases hsm : x.smp = true
  · rw [Ent.res1 hsm] at he ⊢
    exact he.keepW hI fun ho g hg => hO n none g ⟨x, u, hx, ho, hu, hg⟩
  cases x with
  | t ys =>
    obtain ⟨us, rfl, hl, hh⟩ := he
    refine ⟨us, rfl, hl, fun j v y hj hy => ?_⟩
    rcases hh j v y hj hy with h1 | h1
    · exact .inl h1
    · exact .inr (h1.keepW hI fun ho g hg => hO n (some j) g ⟨ys, us, y, v, hx, hu, hy, ho, hj, hg⟩)
  | al k => exact he
  | pe k i off sz => exact he
  | pb k off sz => exact he
  | ud => exact he
  | _ => exact absurd rfl hsm

theorem ownsRow_blk {e : TypeId} {size n : Nat} {v : Value} {xs : List Value} (h : w.ownsRow base e size v n xs) : v.ownBlock = blkOf v := by
  rcases h.2 with ⟨rfl, _⟩ | ⟨g, cap, cur, rfl, _⟩ <;> rfl

theorem FI.grown (hF : FI P nt keep S base w0 env a w) {d : Nat} (hk : d ∈ keep) (hd : d < nt) {env2 : Env} (hs2 : Srt env2) (hsub : ∀ n x, get n env2 = some x → get n env = some x) (hcl : ∀ n x m, get n env2 = some x → x.names = some m → ∃ y, get m env2 = some y ∧ y.names = none)
    {Im : Nat → Prop} (hI1 : ∀ b, S b → Im b) (hI2 : ∀ b, Im b → (S b ∨ base ≤ b) ∧ b < w.heap.size) (hE : Ents P Im w base env (tm a)) {row : Option Nat} (hrow : ∀ g, row = some g → base ≤ g ∧ ¬ Im g ∧ ∀ n c, ¬ Owns env2 (tm a) n c g) {w' : World} (hg : w.grownBy w' row)
    {v' : Value} (hv' : ∀ g, v'.ownBlock = some g → row = some g ∨ w.heap.size ≤ g) {e : TypeId} {es : List V} {vs : List Value} (how : w'.ownsRow base e (P.cellsOf e) v' es.length vs) (hes : ∀ x ∈ es, x.cells.length = P.cellsOf e) (hc : ∀ x ∈ flatc es, x.cell = true) (hr : Reps Im w vs (flatc es)) :
    FI P nt keep S base w0 (put' d (.ow e es) env2) (a.put (some d) v') w' := by
  have hda : d < a.tmps.size := by rw [hF.size]; exact hd
  have hIm : ∀ b, Im b → w'.heap[b]? = w.heap[b]? := fun b hb => hg.block b (hI2 b hb).2 fun e => (hrow b e.symm).2.1 hb
  have hE2 : Ents P Im w base env2 (tm a) := hE.sub hsub hcl
  have hE2' : Ents P Im w' base env2 (tm a) := hE2.keepW hIm fun m c g ho => hg.block g (Owns.lt hE2 ho).1 fun e => (hrow g e.symm).2.2 m c ho
  have hblk : ∀ g, blkOf v' = some g → (row = some g ∨ w.heap.size ≤ g) := fun g h => hv' g (by rw [ownsRow_blk how]; exact h)
  have hOwn : OwnS P Im w' base e es v' := ⟨vs, how, hes, hc, hr.move (fun _ h => h) fun p hp => World.cell?_of_block (hIm _ hp)⟩
  have ho1 : ∀ c g, Owns (put' d (.ow e es) env2) (tm (a.put (some d) v')) d c g → c = none ∧ blkOf v' = some g := by
    intro c g h
    cases c with
    | none =>
      obtain ⟨z, v, hz, _, hT, hg⟩ := h
      rw [tm_put hda, if_pos rfl] at hT
      cases hT
      exact ⟨rfl, hg⟩
    | some j =>
      obtain ⟨ys, _, _, _, hz, _⟩ := h
      rw [get_put' hs2, if_pos rfl] at hz
      cases hz
  refine ⟨hs2.put' _ _, by simpa [Act.put] using hF.size, hF.defers, hF.below.trans ⟨hg.os, hg.tape, hg.output, hg.size, fun k hk => hg.block k (Nat.lt_of_lt_of_le hk hF.bsz) fun e => by have := (hrow k e.symm).1; omega⟩, fun b hb => (hIm b (hI1 b hb)).trans (hF.kept b hb), Nat.le_trans hF.bsz hg.size, fun n x hx => ?_, Im, hI1, fun b hb => ⟨(hI2 b hb).1, Nat.lt_of_lt_of_le (hI2 b hb).2 hg.size⟩, ?_⟩
  · by_cases hn : n = d
    · rw [hn]; exact ⟨hk, hd⟩
    · rw [get_put' hs2, if_neg hn] at hx
      have hx' : ∃ z, get n env2 = some z := by
        cases hq : get d env2 with
        | none => rw [hq] at hx; exact ⟨_, hx⟩
        | some q =>
          rw [hq] at hx
          simp only at hx
          cases hq' : get n env2 with
          | none => rw [hq'] at hx; cases hx
          | some z' => exact ⟨z', rfl⟩
      obtain ⟨z, hz⟩ := hx'
      exact hF.keys n z (hsub n z hz)
  · refine hE2'.put hs2 d _ v' ((tm_put hda d).trans (if_pos rfl)) (fun m y hm _ => (tm_put hda m).trans (if_neg hm)) ?_ (fun m hm => by cases hm) (fun c g h n' c' _ h' => ?_) (fun c c' g h h' => (ho1 c g h).1.trans (ho1 c' g h').1.symm)
    · refine ⟨hOwn, fun g hg' hI => ?_⟩
      rcases hblk g hg' with h | hle
      · exact (hrow g h).2.1 hI
      · have := (hI2 _ hI).2; omega
    · rcases hblk g (ho1 c g h).2 with h2 | hle
      · exact (hrow g h2).2.2 n' c' h'
      · have := (Owns.lt hE2 h').1; omega

theorem srcT_nil {t : TypeId} {x : Operand} {e : Nat} (h : srcT P t x = some (.c (.ow e []))) : a.eval x = .slice none 0 0 := by
  cases x with
  | tmp n => simp [srcT] at h
  | func f => simp [srcT] at h
  | global g => simp [srcT] at h
  | const c =>
    simp only [srcT] at h
    cases hc : constT P t c with
    | none => rw [hc] at h; cases h
    | some v =>
      rw [hc] at h
      simp only [Option.map_some, Option.some.injEq, Src.c.injEq] at h
      subst h
      unfold constT at hc
      split at hc
      · rfl
      · cases hc
      · have := (ofConst_kind hc).1
        simp [V.isOwn] at this

theorem step_app (hF : FI P nt keep S base w0 env a w) {d : Nat} (hk : d ∈ keep) (hd : d < nt) {t e k b : Nat} {zc : List V} {x y : Operand} {s sy : Src} {oper : Oper} (hop : oper.op = .call { callee := .builtin .append, args := #[x, y], argTypes := #[t, t] })
    (hkc : elemCells P t = some k) (hbc : elemBytes P t = some b) (hel : elemTy P t = some e) (hz : zeroCells P e = some zc) (hcond : 0 < k ∧ 0 < b ∧ zc.length = k) (hs : srcT P t x = some s) (hy : src y = some sy)
    (hst : stepS o env (.app d e k b s sy) = some env') : ∃ u w1, (execOp a.eval oper).run P w = .ok (.value u) w1 ∧ FI P nt keep S base w0 env' (a.put (some d) u) w1 := by
  have hu : P.underlying t = some (.slice e) := by
    unfold elemTy at hel
    split at hel
    · rename_i e' hu; cases hel; exact hu
    · cases hel
  obtain ⟨i, hi, hik, hib⟩ : ∃ i, P.info? e = some i ∧ i.size = k ∧ i.bytes = b := by
    simp only [elemCells, elemBytes, hu] at hkc hbc
    cases h : P.info? e with
    | none => rw [h] at hkc; cases hkc
    | some i => rw [h] at hkc hbc; exact ⟨i, rfl, by simpa using hkc, by simpa using hbc⟩
  have hke : P.cellsOf e = k := by simp [Program.cellsOf, hi, hik]
  obtain ⟨zv, hzv, hzs⟩ : ∃ zv, i.zero = some zv ∧ zv.cells.size = k := by
    unfold zeroCells at hz
    rw [hi] at hz
    simp only [Option.bind_some] at hz
    cases h : i.zero with
    | none => rw [h] at hz; cases hz
    | some zv =>
      rw [h] at hz
      simp only [Option.bind_some] at hz
      obtain ⟨r1, _⟩ := ofCells_rep (S := fun _ => False) (w := w) hz
      exact ⟨zv, rfl, by rw [← Array.length_toList, r1.1]; exact hcond.2.2⟩
  simp only [stepS] at hst
  cases hl : lookS env sy with
  | none => rw [hl] at hst; cases hst
  | some yv =>
    rw [hl] at hst
    simp only [Option.bind_some] at hst
    cases yv <;> first | (cases hst; done) | skip
    rename_i ys
    simp only at hst
    split at hst
    · rename_i hall
      have hall1 : ∀ x ∈ ys, x.cells.length = k := fun x hx => by simpa using List.all_eq_true.1 hall x hx
      obtain ⟨Im, hI1, hI2, hE⟩ := hF.ents
      obtain ⟨ad, c, news, hye, hyr, hyc, hycell⟩ := lookS_row hE hy hl
      have hnl : news.length = ys.length * k := by rw [hyr.1, flatc_length hall1]
      have hn1 := hyr.oneCell hyc
      have exec : ∀ (v v' : Value) (w' : World), a.eval x = v → (Builtin.append_ #[t, t] oper.type #[v, .slice ad ys.length c]).run P w = .ok v' w' → (execOp a.eval oper).run P w = .ok (.value v') w' := by
        intro v v' w' hx hr
        simp [execOp, hop, resolve, invoke, builtin, hx, hye, hr]
      cases s with
      | c v0 =>
        cases v0 with
        | ow e' es0 =>
          cases es0 with
          | nil =>
            simp only at hst
            split at hst
            · rename_i hc
              cases hst
              obtain ⟨rfl, hbound⟩ := hc
              have hx : a.eval x = .slice none 0 0 := srcT_nil hs
              obtain ⟨v', w', h1, h2, h3, h4⟩ := append_run (P := P) (base := base) hu hi hzv hik hib hzs hcond.1 oper.type (World.ownsRow_nil w base e' k) (ad := ad) (m := ys.length) (c := c) hnl (by
                rcases hycell with rfl | h
                · exact .inl rfl
                · exact .inr h) hn1 (by
                  have : ys.length ≤ ys.length * b := Nat.le_mul_of_pos_right _ hcond.2.1
                  simp only [maxLen]; omega) (by simpa using hbound) hF.bsz
              refine ⟨v', w', exec _ _ _ hx h1, hF.grown hk hd hF.srt (fun _ _ h => h) hE.closed hI1 hI2 hE (fun g hg => by simp [Value.ownBlock] at hg) h3 (grown_old h4) (by rw [hke]; simpa using h2) (fun x hx => (hall1 x hx).trans hke.symm) hyc (by simpa using hyr)⟩
            · cases hst
          | cons _ _ => simp at hst
        | _ => simp at hst
      | t n =>
        have hxt : x = .tmp n := by
          cases x with
          | tmp n' => simp only [srcT, Option.some.injEq, Src.t.injEq] at hs; subst hs; rfl
          | const c => simp only [srcT] at hs; cases hc : constT P t c <;> rw [hc] at hs <;> cases hs
          | func f => simp [srcT] at hs
          | global g => simp [srcT] at hs
        subst hxt
        simp only at hst
        cases how : rowOf env n with
        | none => rw [how] at hst; cases hst
        | some m =>
          rw [how] at hst
          simp only [Option.bind_some] at hst
          cases hm : get m env with
          | none => rw [hm] at hst; cases hst
          | some z =>
            rw [hm] at hst
            simp only [Option.bind_some] at hst
            cases z <;> first | (cases hst; done) | skip
            rename_i e' es
            simp only at hst
            split at hst
            · rename_i hc
              cases hst
              obtain ⟨rfl, hbound, _⟩ := hc
              obtain ⟨u, hum, hent⟩ := hE.ent m _ hm
              -- slot n holds the same
              have hn : a.eval (.tmp n) = u ∧ ∃ x, get n env = some x ∧ (n = m ∨ x.names = some m) := by
                unfold rowOf at how
                split at how
                · rename_i q hx
                  cases how
                  obtain ⟨u', hu', he'⟩ := hE.ent n _ hx
                  have := hum.symm.trans he'; cases this
                  exact ⟨eval_tmp hu', _, hx, .inr rfl⟩
                · rename_i hx
                  cases how
                  exact ⟨eval_tmp hum, _, hx, .inl rfl⟩
                · cases how
              obtain ⟨hx, xn, hxn, hnn⟩ := hn
              have hs1 : Srt (del m env) := hF.srt.filter _
              have hs2 : Srt (purge m (del m env)) := hs1.filter _
              have hs3 : Srt (purge n (purge m (del m env))) := hs2.filter _
              have hsub : ∀ q x, get q (purge n (purge m (del m env))) = some x → get q env = some x ∧ q ≠ m ∧ x.names ≠ some m ∧ x.names ≠ some n := by
                intro q x hq
                rw [get_purge hs2, get_purge hs1, get_del hF.srt] at hq
                by_cases hqm : q = m
                · rw [if_pos hqm] at hq; cases hq
                · rw [if_neg hqm] at hq
                  cases hq' : get q env with
                  | none => rw [hq'] at hq; cases hq
                  | some x' =>
                    rw [hq'] at hq
                    simp only [Option.bind_some] at hq
                    split at hq
                    · cases hq
                    · simp only [Option.bind_some] at hq
                      split at hq
                      · cases hq
                      · cases hq; exact ⟨rfl, hqm, ‹_›, ‹_›⟩
              have hsup : ∀ q x, q ≠ m → get q env = some x → x.names ≠ some m → x.names ≠ some n → get q (purge n (purge m (del m env))) = some x := by
                intro q x hqm hq h1 h2
                rw [get_purge hs2, get_purge hs1, get_del hF.srt, if_neg hqm, hq]
                simp only [Option.bind_some]
                rw [if_neg h1]
                simp only [Option.bind_some]
                rw [if_neg h2]
              obtain ⟨⟨vs, hvo, hvk, hvc, hvr⟩, hng⟩ := hent
              obtain ⟨v', w', h1, h2, h3, h4⟩ := append_run (P := P) (base := base) hu hi hzv hik hib hzs hcond.1 oper.type (n := es.length) (by rw [← hke]; exact hvo) (ad := ad) (m := ys.length) (c := c) hnl (by
                  rcases hycell with rfl | h
                  · exact .inl rfl
                  · exact .inr h) hn1 (by
                    have : es.length + ys.length ≤ (es.length + ys.length) * b := Nat.le_mul_of_pos_right _ hcond.2.1
                    simp only [maxLen]; omega) hbound hF.bsz
              refine ⟨v', w', exec _ _ _ hx h1, hF.grown hk hd hs3 (fun q x h => (hsub q x h).1) (fun q x j hq hj => ?_) hI1 hI2 hE (row := u.ownBlock) (fun g hg => ?_) h3 (grown_old h4) (by rw [hke, List.length_append]; exact h2) (fun x hx => ?_) (fun x hx => ?_) (by rw [flatc_append]; exact hvr.append hyr)⟩
              · obtain ⟨g1, g2, g3, g4⟩ := hsub q x hq
                obtain ⟨z, hz, hzn⟩ := hE.closed q x j g1 hj
                exact ⟨z, hsup j z (fun e => g3 (by rw [← e]; exact hj)) hz (by rw [hzn]; simp) (by rw [hzn]; simp), hzn⟩
              · have hbu : blkOf u = some g := by rw [← ownsRow_blk hvo]; exact hg
                have ho : Owns env (tm a) m none g := ⟨_, u, hm, rfl, hum, hbu⟩
                have hlt := Owns.lt hE ho
                refine ⟨hlt.2.1, hlt.2.2, fun q c' hq => ?_⟩
                have hqo : Owns env (tm a) q c' g ∧ q ≠ m := by
                  cases c' with
                  | none => obtain ⟨x, v, hx, h⟩ := hq; exact ⟨⟨x, v, (hsub _ _ hx).1, h⟩, (hsub _ _ hx).2.1⟩
                  | some j => obtain ⟨zs, us, x, v, hx, h⟩ := hq; exact ⟨⟨zs, us, x, v, (hsub _ _ hx).1, h⟩, (hsub _ _ hx).2.1⟩
                exact hqo.2 (hE.apart _ _ _ _ _ hqo.1 ho).1
              · rcases List.mem_append.1 hx with h | h
                · exact hvk x h
                · exact (hall1 x h).trans hke.symm
              · rw [flatc_append] at hx
                rcases List.mem_append.1 hx with h | h
                · exact hvc x h
                · exact hyc x h
            · cases hst
    · cases hst

/-! ### Calls -/

theorem FI.grow (hF : FI P nt keep S base w0 env a w) {w1 : World} (hb : Below w.heap.size w w1) : FI P nt keep S base w0 env a w1 := by
  obtain ⟨Im, hI1, hI2, hE⟩ := hF.ents
  exact ⟨hF.srt, hF.size, hF.defers, hF.below.trans (hb.mono hF.bsz), (fun b hb0 => (hb.block b (hI2 b (hI1 b hb0)).2).trans (hF.kept b hb0)), Nat.le_trans hF.bsz hb.size, hF.keys, Im, hI1, fun b h => ⟨(hI2 b h).1, Nat.lt_of_lt_of_le (hI2 b h).2 hb.size⟩,
    hE.move (fun _ h => h) (fun n c g ho => (Owns.lt hE ho).2.2) (fun b hb' => hb.block b hb') fun b h => (hI2 b h).2⟩

theorem Res1.lower {Im : Nat → Prop} {B : Nat} {v : Value} {y : V} (h : Res1 P Im w B v y) (hB : base ≤ B) : Res1 P Im w base v y := by
  cases y with
  | ow e es =>
    obtain ⟨⟨vs, ⟨hl, hv⟩, h⟩, hn⟩ := h
    refine ⟨⟨vs, ⟨hl, ?_⟩, h⟩, hn⟩
    rcases hv with h | ⟨g, cap, cur, rfl, h2, h3⟩
    · exact .inl h
    · exact .inr ⟨g, cap, cur, rfl, Nat.le_trans hB h2, h3⟩
  | bx cs =>
    obtain ⟨⟨g, vs, ty, rfl, h2, h⟩, hn⟩ := h
    exact ⟨⟨g, vs, ty, rfl, Nat.le_trans hB h2, h⟩, hn⟩
  | mp ks vs =>
    obtain ⟨⟨g, es, c, rfl, h2, h⟩, hn⟩ := h
    exact ⟨⟨g, es, c, rfl, Nat.le_trans hB h2, h⟩, hn⟩
  | al n => exact h
  | pe a b c d => exact h
  | pb a b c => exact h
  | t ys => exact h
  | ud => exact h
  | _ => exact h
theorem Res1.fresh {Im : Nat → Prop} {B : Nat} {v : Value} {y : V} (h : Res1 P Im w B v y) (ho : y.isOwn = true) {g : Nat} (hg : blkOf v = some g) : B ≤ g := by
  cases y with
  | ow e es =>
    obtain ⟨⟨vs, ⟨_, hv⟩, _⟩, _⟩ := h
    rcases hv with ⟨rfl, _⟩ | ⟨g', cap, cur, rfl, h2, _⟩
    · simp [blkOf] at hg
    · simp only [blkOf, Option.some.injEq] at hg; omega
  | bx cs =>
    obtain ⟨⟨g', vs, ty, rfl, h2, _⟩, _⟩ := h
    simp only [blkOf, Option.some.injEq] at hg; omega
  | mp ks vs =>
    obtain ⟨⟨g', es, c, rfl, h2, _⟩, _⟩ := h
    simp only [blkOf, Option.some.injEq] at hg; omega
  | _ => simp [V.isOwn] at ho

theorem FI.put_res (hF : FI P nt keep S base w0 env a w) {d : Option Nat} (hkd : ∀ d', d = some d' → d' ∈ keep ∧ d' < nt) {w1 : World} (hb : Below w.heap.size w w1) {Im Im1 : Nat → Prop} (hI1 : ∀ b, S b → Im b) (hI2 : ∀ b, Im b → (S b ∨ base ≤ b) ∧ b < w.heap.size) (hE : Ents P Im w base env (tm a))
    (h1 : ∀ b, Im b → Im1 b) (h2 : ∀ b, Im1 b → (Im b ∨ w.heap.size ≤ b) ∧ b < w1.heap.size) {v : Value} {y : V} (hr : Res P Im1 w1 w.heap.size v y) : FI P nt keep S base w0 (putO d y env) (a.put d v) w1 := by
  cases d with
  | none => exact hF.grow hb
  | some d =>
    obtain ⟨hk, hd⟩ := hkd d rfl
    have hda : d < a.tmps.size := by rw [hF.size]; exact hd
    have hE1 := hE.move (w' := w1) h1 (fun n c g ho => by
      have := Owns.lt hE ho
      intro hg
      rcases (h2 g hg).1 with h | h
      · exact this.2.2 h
      · omega) (fun b hb' => hb.block b hb') (fun b h => (hI2 b h).2)
    have hnm : y.names = none := by cases y <;> first | rfl | exact hr.elim
    have hown : ∀ c g, Owns (put' d y env) (tm (a.put (some d) v)) d c g → w.heap.size ≤ g := by
      intro c g ho
      cases c with
      | none =>
        obtain ⟨z, u, hz, hzo, hT, hg⟩ := ho
        rw [get_put' hF.srt, if_pos rfl] at hz
        cases hz
        rw [tm_put hda, if_pos rfl] at hT
        cases hT
        have hr1 : Res1 P Im1 w1 w.heap.size v y := by cases y <;> first | exact hr | (simp [V.isOwn] at hzo; done)
        exact Res1.fresh hr1 hzo hg
      | some j =>
        obtain ⟨ys, us, z, u, hz, hT, hy, hzo, hu, hg⟩ := ho
        rw [get_put' hF.srt, if_pos rfl] at hz
        cases hz
        rw [tm_put hda, if_pos rfl] at hT
        cases hT
        obtain ⟨us', he, hl, hh, _⟩ := hr
        have : us = us' := by simpa using he
        subst this
        exact Res1.fresh (hh j u z hu hy) hzo hg
    have hown' : ∀ c c' g, Owns (put' d y env) (tm (a.put (some d) v)) d c g → Owns (put' d y env) (tm (a.put (some d) v)) d c' g → c = c' := by
      intro c c' g ho ho'
      cases c with
      | none =>
        cases c' with
        | none => rfl
        | some j =>
          obtain ⟨z, u, hz, hzo, _⟩ := ho
          obtain ⟨ys, us, z', u', hz', _⟩ := ho'
          rw [hz] at hz'; cases hz'
          simp [V.isOwn] at hzo
      | some i =>
        cases c' with
        | none =>
          obtain ⟨z, u, hz, hzo, _⟩ := ho'
          obtain ⟨ys, us, z', u', hz', _⟩ := ho
          rw [hz] at hz'; cases hz'
          simp [V.isOwn] at hzo
        | some j =>
          obtain ⟨ys, us, z, u, hz, hT, hy, hzo, hu, hg⟩ := ho
          obtain ⟨ys', us', z', u', hz', hT', hy', hzo', hu', hg'⟩ := ho'
          rw [hz] at hz'; cases hz'
          have := hT.symm.trans hT'
          have : us = us' := by simpa using this
          subst this
          rw [get_put' hF.srt, if_pos rfl] at hz
          cases hz
          rw [tm_put hda, if_pos rfl] at hT
          cases hT
          obtain ⟨us', he, hl, hh, hap⟩ := hr
          have : us = us' := by simpa using he
          subst this
          by_cases hij : i = j
          · rw [hij]
          · exact absurd hg' (hap i j u u' z z' g hij hu hu' hy hy' hzo hzo' hg)
    refine ⟨hF.srt.put' _ _, by simpa [Act.put] using hF.size, hF.defers, hF.below.trans (hb.mono hF.bsz), (fun b hb0 => (hb.block b (hI2 b (hI1 b hb0)).2).trans (hF.kept b hb0)), Nat.le_trans hF.bsz hb.size, fun n z hz => ?_, Im1, fun b hb' => h1 b (hI1 b hb'), fun b hb' => ?_, ?_⟩
    · by_cases hn : n = d
      · subst hn; exact ⟨hk, hd⟩
      · have hz : get n (put' d y env) = some z := hz
        rw [get_put' hF.srt, if_neg hn] at hz
        cases hq : get d env with
        | none => rw [hq] at hz; exact hF.keys n z hz
        | some z' =>
          rw [hq] at hz
          simp only at hz
          cases hn' : get n env with
          | none => rw [hn'] at hz; cases hz
          | some y' => exact hF.keys n y' hn'
    · refine ⟨?_, (h2 b hb').2⟩
      rcases (h2 b hb').1 with h | h
      · exact (hI2 b h).1
      · exact .inr (Nat.le_trans hF.bsz h)
    · refine hE1.put hF.srt d y v ((tm_put hda d).trans (if_pos rfl)) (fun m z hm _ => (tm_put hda m).trans (if_neg hm)) ?_ (fun m hm => by rw [hnm] at hm; cases hm) (fun c g ho n' c' _ ho' => ?_) hown'
      · by_cases hsm : y.smp = true
        · rw [Ent.res1 hsm]
          have hr1 : Res1 P Im1 w1 w.heap.size v y := by cases y <;> first | exact hr | (simp [V.smp] at hsm; done)
          exact Res1.lower hr1 hF.bsz
        · cases y with
          | t ys =>
            obtain ⟨us, rfl, hl, hh, _⟩ := hr
            exact ⟨us, rfl, hl, fun j u z hu hz => .inr (Res1.lower (hh j u z hu hz) hF.bsz)⟩
          | al n => exact hr.elim
          | pe a b c d => exact hr.elim
          | pb a b c => exact hr.elim
          | ud => exact hr.elim
          | _ => exact absurd rfl hsm
      · have h3 := hown c g ho
        have h5 := (Owns.lt hE ho').1
        omega

theorem Res1.of_flat {S' Im : Nat → Prop} {B : Nat} {v : Value} {y : V} (h : Res1 P S' w B v y) (hf : y.flat = true) (hS : ∀ b, Im b → S' b) : Res1 P Im w B v y := by
  cases y with
  | ow e es =>
    obtain ⟨⟨vs, hv, hk, hc, hr⟩, hn⟩ := h
    refine ⟨⟨vs, hv, hk, hc, hr.1, fun j u x hu hx => (hr.2 j u x hu hx).of_flat ?_⟩, fun g hg hI => hn g hg (hS g hI)⟩
    simp only [V.flat] at hf
    obtain ⟨e', he', hx'⟩ := List.mem_flatMap.1 (List.mem_of_getElem? hx)
    have h1 := (V.flats_iff es).1 hf e' he'
    cases e' with
    | a cs =>
      simp only [V.flat] at h1
      exact (V.flats_iff cs).1 h1 x hx'
    | _ => simp only [V.cells, List.mem_singleton] at hx'; subst hx'; exact h1
  | bx cs => simp [V.flat] at hf
  | mp ks vs => simp [V.flat] at hf
  | al n => exact h
  | pe a b c d => exact h
  | pb a b c => exact h
  | t ys => exact h
  | ud => exact h
  | _ => exact Rep.of_flat h hf
theorem Res.eq1 {Im : Nat → Prop} {B : Nat} {v : Value} {y : V} (hy : ∀ ys, y ≠ .t ys) : Res P Im w B v y = Res1 P Im w B v y := by
  cases y <;> first | rfl | exact absurd rfl (hy _)
theorem Res.of_flat {S' Im : Nat → Prop} {B : Nat} {v : Value} {y : V} (h : Res P S' w B v y) (hf : y.flat = true) (hS : ∀ b, Im b → S' b) : Res P Im w B v y := by
  cases y with
  | t ys =>
    obtain ⟨us, hu, hl, hh, ha⟩ := h
    refine ⟨us, hu, hl, fun j u z hu hz => Res1.of_flat (hh j u z hu hz) ?_ hS, ha⟩
    simp only [V.flat] at hf
    exact (V.flats_iff ys).1 hf z (List.mem_of_getElem? hz)
  | _ => rw [Res.eq1 (by simp)] at h ⊢; exact Res1.of_flat h hf hS

theorem step_call (ho : SoundO P o) (hF : FI P nt keep S base w0 env a w) {d : Option Nat} (hkd : ∀ d', d = some d' → d' ∈ keep ∧ d' < nt) {oper : Oper} {xs : List Operand} {ss : List Src} (hs : srcs xs = some ss) {vs : List V} (hvs : lookSs env ss = some vs) {r : V}
    (henter : ∀ S : Nat → Prop, Reps S w (xs.map a.eval) vs → ∃ f us zs, o f zs = some r ∧ Reps S w us zs ∧ (execOp a.eval oper).run P w = .ok (.enter f us.toArray) w) :
    Outc P ((execOp a.eval oper).run P w) fun u w1 => FI P nt keep S base w0 (putO d r (if r.flat then env else freeze env ss)) (a.put d u) w1 := by
  by_cases hf : r.flat = true
  · obtain ⟨f, us, zs, hz, hr, hrun⟩ := henter (All w) (srcs_val hF hs hvs)
    rw [hrun]
    refine ((ho.2 f zs r hz).2 (All w) w us (fun _ h => h) (let ⟨_, _, h2, hE⟩ := hF.ents; hE.glob.move (fun b h => (h2 b h).2) fun _ _ => rfl) hr).mono fun e w1 ⟨v, he, hb, S', hS1, hS2, hres⟩ => ⟨v, he, ?_⟩
    obtain ⟨Im, hI1, hI2, hE⟩ := hF.ents
    rw [if_pos hf]
    refine hF.put_res hkd hb hI1 hI2 hE (fun _ h => h) (fun b h => ⟨.inl h, Nat.lt_of_lt_of_le (hI2 b h).2 hb.size⟩) (hres.of_flat hf fun b h => hS1 b (hI2 b h).2)
  · have hF' := hF.freeze ss
    obtain ⟨Im, hI1, hI2, hE⟩ := hF'.ents
    obtain ⟨f, us, zs, hz, hr, hrun⟩ := henter Im (srcs_loose hE hs (loose_freeze ss env).2 (by rw [lookSs_freeze]; exact hvs))
    rw [hrun]
    refine ((ho.2 f zs r hz).2 Im w us (fun b h => (hI2 b h).2) hE.glob hr).mono fun e w1 ⟨v, he, hb, S', hS1, hS2, hres⟩ => ⟨v, he, ?_⟩
    rw [if_neg hf]
    exact hF'.put_res hkd hb hI1 hI2 hE hS1 hS2 hres
end
end Go.VM
/-
  Steps: the bytes of a text. No program is named here.
-/
namespace Go.VM
open Go.RowKit
variable [Glob]

section
variable {P : Program} {nt : Nat} {keep : List Nat} {S : Nat → Prop} {base : Nat} {w0 : World} {env env' : Env} {a : Act} {w : World} {o : Orc}

theorem below_bytes (w : World) (e : TypeId) (s : ByteArray) : Below w.heap.size w (Lib.bytesWorld w e s) :=
  ⟨by simp [Lib.bytesWorld, World.freeze, World.alloc, World.drew, -World.alloc_eq, -World.drew_eq], by simp [Lib.bytesWorld, World.freeze, World.alloc, World.drew, -World.alloc_eq, -World.drew_eq],
   by simp [Lib.bytesWorld, World.freeze, World.alloc, World.drew, -World.alloc_eq, -World.drew_eq], by rw [Lib.bytesWorld_size]; omega, fun i hi => Lib.bytesWorld_at_old w e s i hi⟩

theorem step_s2b (hF : FI P nt keep S base w0 env a w) {d : Nat} (hk : d ∈ keep) (hd : d < nt) {t u e : TypeId} {x : Operand} {s : Src} {oper : Oper} (hop : oper.op = .convert t u x) (ht : P.underlying t = some .string) (hu : P.underlying u = some (.slice e)) (he : P.underlying e = some (.int .u8))
    (hs : src x = some s) (hst : stepS o env (.s2b d e s) = some env') : ∃ v w1, (execOp a.eval oper).run P w = .ok (.value v) w1 ∧ FI P nt keep S base w0 env' (a.put (some d) v) w1 := by
  simp only [stepS] at hst
  cases hl : lookS env s with
  | none => rw [hl] at hst; cases hst
  | some v =>
    rw [hl] at hst
    simp only [Option.bind_some] at hst
    cases v <;> first | (cases hst; done) | skip
    rename_i xs
    simp only [Option.some.injEq] at hst
    subst hst
    have hr := src_val hF hs hl
    obtain ⟨b, hb, hbx⟩ : ∃ b : ByteArray, a.eval x = .string b ∧ b.data.toList = xs := by
      generalize a.eval x = y at hr
      cases hr with
      | s b => exact ⟨b, rfl, rfl⟩
    subst hbx
    have hrun : (execOp a.eval oper).run P w = .ok (.value (.slice (some ⟨w.heap.size, 0, none⟩) b.size (grownCap w b.size 0 e))) (Lib.bytesWorld w e b) := by
      have := Lib.run_convert_string_bytes w t u e b ht hu he
      simp only [execOp, hop, hb, Sem.run_bind, this, Result.andThen_ok, Sem.run_pure]
    refine ⟨_, _, hrun, hF.put_rep hk hd (below_bytes w e b) rfl rfl fun Im h1 h2 hE => ?_⟩
    refine ⟨fun k => Im k ∨ k = w.heap.size, fun _ h => .inl h, fun k hk => ?_, ?_⟩
    · rw [Lib.bytesWorld_size]
      rcases hk with hk | rfl
      · exact ⟨.inl hk, by have := (h2 k hk).2; omega⟩
      · exact ⟨.inr (Nat.le_refl _), by omega⟩
    · have hlen : (b.data.toList.map fun c => V.i .u8 (c.toNat : Int)).length = b.size := by rw [List.length_map]; rfl
      rw [← hlen]
      have hfl : ∀ l : List UInt8, flatc (l.map fun c => V.i .u8 (c.toNat : Int)) = l.map fun c => V.i .u8 (c.toNat : Int) := by
        intro l
        induction l with
        | nil => rfl
        | cons c l ih => rw [List.map_cons, flatc_cons, ih]; rfl
      refine Rep.mk_slice (k := 1) (fun y hy => ?_) ?_ (vs := b.data.toList.map fun c => Value.int .u8 (c.toNat : Int)) ?_ ?_ (.inr ⟨_, rfl, .inr rfl, fun j u hj => ?_⟩)
      · obtain ⟨c, _, rfl⟩ := List.mem_map.1 hy; rfl
      · rw [hfl]
        intro y hy
        obtain ⟨c, _, rfl⟩ := List.mem_map.1 hy; rfl
      · rw [hfl]
        refine ⟨by simp, fun j u y hu hy => ?_⟩
        rw [List.getElem?_map] at hu hy
        cases hc : b.data.toList[j]? with
        | none => rw [hc] at hu; cases hu
        | some c =>
          rw [hc] at hu hy
          simp only [Option.map_some, Option.some.injEq] at hu hy
          subst hu; subst hy
          exact .i _ _
      · rw [hlen]; exact grownCap_ge _ _ _ _
      · rw [List.getElem?_map] at hj
        cases hc : b.data.toList[j]? with
        | none => rw [hc] at hj; cases hj
        | some c =>
          rw [hc] at hj
          simp only [Option.map_some, Option.some.injEq] at hj
          subst hj
          have hjl : j < b.size := by
            exact (List.getElem?_eq_some_iff.1 hc).1
          have := Lib.bytesWorld_cell w e b j hjl
          rw [List.getD_eq_getElem?_getD, hc] at this
          have hadd : (⟨w.heap.size, 0, none⟩ : Addr).add j = ⟨w.heap.size, j, none⟩ := by
            unfold Addr.add
            split
            · rename_i h0; subst h0; rfl
            · simp
          rw [hadd]
          exact this
end
end Go.VM
/-
  Maps of the call's own: made, looked into, written. No program is named here.
-/
namespace Go.VM
open Go.RowKit

def keyDesc : Nat → TypeDesc
  | 0 => .bool
  | 1 => .string
  | _ => .int .i64
theorem keyTy_desc {P : Program} {t : TypeId} {kt : Nat} (h : keyTy P t = some kt) : P.underlying t = some (keyDesc kt) := by
  unfold keyTy at h
  split at h <;> cases h <;> assumption
theorem keyB_inv {kt : Nat} {k : V} (h : keyB kt k = true) : (kt = 0 ∧ ∃ b, k = .b b) ∨ (kt = 1 ∧ ∃ s, k = .s s) ∨ (kt = 2 ∧ ∃ n, k = .i .i64 n) := by
  unfold keyB at h
  split at h
  · exact .inl ⟨rfl, _, rfl⟩
  · exact .inr (.inl ⟨rfl, _, rfl⟩)
  · exact .inr (.inr ⟨rfl, _, rfl⟩)
  · cases h
theorem sameNow_eq {kt : Nat} {k x : V} (hk : keyB kt k = true) (hx : keyB kt x = true) : Instr.sameNow (keyDesc kt) k.toVal x.toVal = some (keyEq k x) := by
  rcases keyB_inv hk with ⟨rfl, a, rfl⟩ | ⟨rfl, a, rfl⟩ | ⟨rfl, a, rfl⟩
  · rcases keyB_inv hx with ⟨_, b, rfl⟩ | ⟨h, _⟩ | ⟨h, _⟩ <;> first | (cases h; done) | skip
    simp [keyDesc, V.toVal, Instr.sameNow, keyEq]
  · rcases keyB_inv hx with ⟨h, _⟩ | ⟨_, b, rfl⟩ | ⟨h, _⟩ <;> first | (cases h; done) | skip
    have hd : ((⟨a.toArray⟩ : ByteArray) == ⟨b.toArray⟩) = decide (a = b) := by
      rw [Bool.eq_iff_iff, decide_eq_true_iff]
      constructor
      · intro h
        have h' : a.toArray == b.toArray := h
        have := congrArg Array.toList (eq_of_beq h')
        simpa using this
      · rintro rfl
        show (a.toArray == a.toArray) = true
        simp
    simp [keyDesc, V.toVal, Instr.sameNow, keyEq, hd]
  · rcases keyB_inv hx with ⟨h, _⟩ | ⟨h, _⟩ | ⟨_, b, rfl⟩ <;> first | (cases h; done) | skip
    simp [keyDesc, V.toVal, Instr.sameNow, keyEq]
    rw [Bool.eq_iff_iff]; simp
theorem keyEq_eq {kt : Nat} {k x : V} (hk : keyB kt k = true) (hx : keyB kt x = true) (h : keyEq k x = true) : k = x := by
  rcases keyB_inv hk with ⟨rfl, a, rfl⟩ | ⟨rfl, a, rfl⟩ | ⟨rfl, a, rfl⟩
  · rcases keyB_inv hx with ⟨_, b, rfl⟩ | ⟨h, _⟩ | ⟨h, _⟩ <;> first | (cases h; done) | skip
    simpa [keyEq] using h
  · rcases keyB_inv hx with ⟨h, _⟩ | ⟨_, b, rfl⟩ | ⟨h, _⟩ <;> first | (cases h; done) | skip
    simpa [keyEq] using h
  · rcases keyB_inv hx with ⟨h, _⟩ | ⟨h, _⟩ | ⟨_, b, rfl⟩ <;> first | (cases h; done) | skip
    simpa [keyEq] using h
theorem keyB_uniq {kt : Nat} {k : V} (hk : keyB kt k = true) : k.uniq = true := by
  rcases keyB_inv hk with ⟨rfl, a, rfl⟩ | ⟨rfl, a, rfl⟩ | ⟨rfl, a, rfl⟩ <;> rfl

theorem find_none {kt : Nat} {k : V} (hk : keyB kt k = true) : ∀ {ks vs : List V} {es : List MapEntry} (i : Nat), es.map (·.key) = ks.map V.toVal → es.map (·.val) = vs.map V.toVal → ks.all (keyB kt) = true → mfind k ks vs = none →
    Instr.findNow (keyDesc kt) k.toVal es i = some none ∧ mkeys k ks = ks ++ [k] ∧ ∀ v, mvals k v ks vs = vs ++ [v]
  | [], [], [], i, _, _, _, _ => ⟨rfl, rfl, fun _ => rfl⟩
  | x :: ks, y :: vs, e :: es, i, h1, h2, h3, h4 => by
    simp only [List.map_cons, List.cons.injEq] at h1 h2
    simp only [List.all_cons, Bool.and_eq_true] at h3
    simp only [mfind] at h4
    split at h4
    · cases h4
    · rename_i hne
      obtain ⟨r1, r2, r3⟩ := find_none hk (i + 1) h1.2 h2.2 h3.2 h4
      have := sameNow_eq hk h3.1
      simp only [Bool.not_eq_true] at hne
      refine ⟨?_, ?_, fun v => ?_⟩
      · simp only [Instr.findNow, h1.1, this, hne, r1]
      · simp [mkeys, hne, r2]
      · simp [mvals, hne, r3]
  | [], y :: vs, es, i, h1, h2, _, _ => by
    have e1 := congrArg List.length h1; have e2 := congrArg List.length h2
    simp only [List.length_map, List.length_cons, List.length_nil] at e1 e2; omega
  | x :: ks, [], es, i, h1, h2, _, _ => by
    have e1 := congrArg List.length h1; have e2 := congrArg List.length h2
    simp only [List.length_map, List.length_cons, List.length_nil] at e1 e2; omega
  | [], [], e :: es, i, h1, _, _, _ => by simp at h1
  | x :: ks, y :: vs, [], i, h1, _, _, _ => by simp at h1
theorem find_some {kt : Nat} {k : V} (hk : keyB kt k = true) : ∀ {ks vs : List V} {es : List MapEntry} (i : Nat) {r : V}, es.map (·.key) = ks.map V.toVal → es.map (·.val) = vs.map V.toVal → ks.all (keyB kt) = true → mfind k ks vs = some r →
    ∃ j, Instr.findNow (keyDesc kt) k.toVal es i = some (some (i + j, r.toVal)) ∧ j < es.length ∧ ks[j]? = some k ∧ mkeys k ks = ks ∧ r ∈ vs ∧ ∀ v, mvals k v ks vs = vs.set j v
  | [], _, _, i, r, _, _, _, h => by simp [mfind] at h
  | x :: ks, [], _, i, r, _, _, _, h => by simp [mfind] at h
  | x :: ks, y :: vs, [], i, r, h1, _, _, _ => by simp at h1
  | x :: ks, y :: vs, e :: es, i, r, h1, h2, h3, h4 => by
    simp only [List.map_cons, List.cons.injEq] at h1 h2
    simp only [List.all_cons, Bool.and_eq_true] at h3
    have hs := sameNow_eq hk h3.1
    simp only [mfind] at h4
    split at h4
    · rename_i he
      cases h4
      have := keyEq_eq hk h3.1 he
      subst this
      refine ⟨0, ?_, by simp, rfl, ?_, List.mem_cons_self .., fun v => ?_⟩
      · simp only [Instr.findNow, h1.1, hs, he, h2.1, Nat.add_zero]
      · simp [mkeys, he]
      · simp [mvals, he]
    · rename_i hne
      obtain ⟨j, r1, r2, r3, r4, r5, r6⟩ := find_some hk (i + 1) h1.2 h2.2 h3.2 h4
      simp only [Bool.not_eq_true] at hne
      refine ⟨j + 1, ?_, by simpa using r2, by simpa using r3, ?_, List.mem_cons_of_mem _ r5, fun v => ?_⟩
      · simp only [Instr.findNow, h1.1, hs, hne, r1]
        congr 3
        omega
      · simp [mkeys, hne, r4]
      · simp [mvals, hne, r6]

section
variable {P : Program} {w : World}
theorem getMap_run {g : Nat} {es : Array MapEntry} {clock : Nat} (hg : w.heap[g]? = some (.map es clock)) : (getObj g).run P w = .ok (.map es clock) w := by simp [getObj, Sem.run, hg]
theorem setMap_run {g : Nat} {es : Array MapEntry} {clock : Nat} (o : Obj) (hg : w.heap[g]? = some (.map es clock)) : (setObj g o).run P w = .ok () { w with heap := w.heap.setIfInBounds g o } := by simp [setObj, Sem.run, hg]
theorem checkKey_run {t : TypeId} {kt : Nat} (ht : keyTy P t = some kt) (b : Bool) {k : V} (hk : keyB kt k = true) : (Instr.checkKey b 10000 t k.toVal).run P w = .ok () w := by
  have hu := keyTy_desc ht
  unfold Instr.checkKey
  simp only [Sem.run_bind, run_underlying hu, Result.andThen_ok]
  rcases keyB_inv hk with ⟨rfl, a, rfl⟩ | ⟨rfl, a, rfl⟩ | ⟨rfl, a, rfl⟩ <;> simp [keyDesc, V.toVal]

theorem lookup_run {t k0 e : TypeId} {kt : Nat} (ht : P.underlying t = some (.map k0 e)) (hkt : keyTy P k0 = some kt) {z : V} (hz : (zeroValue e).run P w = .ok z.toVal w) {g : Nat} {es : Array MapEntry} {clock : Nat} (hg : w.heap[g]? = some (.map es clock))
    {ks vs : List V} (h1 : es.toList.map (·.key) = ks.map V.toVal) (h2 : es.toList.map (·.val) = vs.map V.toVal) {k : V} (hk : keyB kt k = true) (h3 : ks.all (keyB kt) = true) :
    (Instr.lookup t (.map (some g)) k.toVal false).run P w = .ok (((mfind k ks vs).getD z).toVal) w := by
  have hf : (Instr.findKey k0 k.toVal es.toList).run P w = .ok ((Instr.findNow (keyDesc kt) k.toVal es.toList 0).getD none) w := by
    unfold Instr.findKey
    simp only [Sem.run_bind, run_underlying (keyTy_desc hkt), Result.andThen_ok]
    cases hm : mfind k ks vs with
    | none => rw [(find_none hk 0 h1 h2 h3 hm).1]; simp
    | some r => obtain ⟨j, hj, _⟩ := find_some hk 0 h1 h2 h3 hm; rw [hj]; simp
  unfold Instr.lookup
  simp only [Sem.run_bind, run_underlying ht, Result.andThen_ok, getMap_run hg, Sem.run_pure, checkKey_run hkt _ hk, hf]
  cases hm : mfind k ks vs with
  | none => rw [(find_none hk 0 h1 h2 h3 hm).1]; simp [hz]
  | some r => obtain ⟨j, hj, _⟩ := find_some hk 0 h1 h2 h3 hm; rw [hj]; simp

theorem lookup_some {t k0 e : TypeId} {kt : Nat} (ht : P.underlying t = some (.map k0 e)) (hkt : keyTy P k0 = some kt) {g : Nat} {es : Array MapEntry} {clock : Nat} (hg : w.heap[g]? = some (.map es clock))
    {ks vs : List V} (h1 : es.toList.map (·.key) = ks.map V.toVal) (h2 : es.toList.map (·.val) = vs.map V.toVal) {k : V} (hk : keyB kt k = true) (h3 : ks.all (keyB kt) = true) {r : V} (hm : mfind k ks vs = some r) :
    (Instr.lookup t (.map (some g)) k.toVal false).run P w = .ok r.toVal w := by
  obtain ⟨j, hj, _⟩ := find_some hk 0 h1 h2 h3 hm
  have hf : (Instr.findKey k0 k.toVal es.toList).run P w = .ok (some (0 + j, r.toVal)) w := by
    unfold Instr.findKey
    simp only [Sem.run_bind, run_underlying (keyTy_desc hkt), Result.andThen_ok, hj, Sem.run_pure]
  unfold Instr.lookup
  simp only [Sem.run_bind, run_underlying ht, Result.andThen_ok, getMap_run hg, Sem.run_pure, checkKey_run hkt _ hk, hf]
  simp
theorem rep_toVal {Im : Nat → Prop} {y : V} (hu : y.uniq = true) (hc : y.cell = true) : Rep Im w y.toVal y := by
  cases y with
  | b x => exact .b x
  | i k n => exact .i k n
  | s x => exact .s ⟨x.toArray⟩
  | nf => exact .nf
  | np => exact .np
  | mr m => exact .mr m
  | _ => first | (simp [V.cell] at hc; done) | (simp [V.uniq] at hu; done)
theorem sameBits_refl {kt : Nat} {k : V} (hk : keyB kt k = true) : Instr.sameBits 10000 k.toVal k.toVal = true := by
  rcases keyB_inv hk with ⟨rfl, a, rfl⟩ | ⟨rfl, a, rfl⟩ | ⟨rfl, a, rfl⟩
  · simp [V.toVal, Instr.sameBits]
  · simp only [V.toVal, Instr.sameBits]
    show (a.toArray == a.toArray) = true
    simp
  · simp [V.toVal, Instr.sameBits]

theorem update_run {t k0 e : TypeId} {kt : Nat} (ht : P.underlying t = some (.map k0 e)) (hkt : keyTy P k0 = some kt) {g : Nat} {es : Array MapEntry} {clock : Nat} (hg : w.heap[g]? = some (.map es clock))
    {ks vs : List V} (h1 : es.toList.map (·.key) = ks.map V.toVal) (h2 : es.toList.map (·.val) = vs.map V.toVal) {k x : V} (hk : keyB kt k = true) (h3 : ks.all (keyB kt) = true) (h7 : (es.toList.map (·.born)).Nodup) (h8 : ∀ x ∈ es.toList, x.born < clock) :
    ∃ (es' : Array MapEntry) (clock' : Nat), (Instr.mapUpdate t (.map (some g)) k.toVal x.toVal).run P w = .ok () { w with heap := w.heap.setIfInBounds g (.map es' clock') } ∧
      es'.toList.map (·.key) = (mkeys k ks).map V.toVal ∧ es'.toList.map (·.val) = (mvals k x ks vs).map V.toVal ∧ (es'.toList.map (·.born)).Nodup ∧ ∀ x ∈ es'.toList, x.born < clock' := by
  have hf : (Instr.findKey k0 k.toVal es.toList).run P w = .ok ((Instr.findNow (keyDesc kt) k.toVal es.toList 0).getD none) w := by
    unfold Instr.findKey
    simp only [Sem.run_bind, run_underlying (keyTy_desc hkt), Result.andThen_ok]
    cases hm : mfind k ks vs with
    | none => rw [(find_none hk 0 h1 h2 h3 hm).1]; simp
    | some r => obtain ⟨j, hj, _⟩ := find_some hk 0 h1 h2 h3 hm; rw [hj]; simp
  cases hm : mfind k ks vs with
  | none =>
    obtain ⟨r1, r2, r3⟩ := find_none hk 0 h1 h2 h3 hm
    refine ⟨es.push { key := k.toVal, val := x.toVal, born := clock }, clock + 1, ?_, ?_, ?_, ?_, fun y hy => ?_⟩
    · unfold Instr.mapUpdate
      simp only [Sem.run_bind, run_underlying ht, Result.andThen_ok, getMap_run hg, checkKey_run hkt _ hk, hf, r1, Option.getD_some, setMap_run _ hg]
    · simp [r2, h1]
    · simp [r3, h2]
    · simp only [Array.toList_push, List.map_append, List.map_cons, List.map_nil]
      refine List.nodup_append.2 ⟨h7, by simp, fun a ha b hb => ?_⟩
      obtain ⟨z, hz, rfl⟩ := List.mem_map.1 ha
      simp only [List.mem_singleton] at hb
      have := h8 z hz
      omega
    · simp only [Array.toList_push, List.mem_append, List.mem_singleton] at hy
      rcases hy with hy | rfl
      · have := h8 y hy; omega
      · exact Nat.lt_succ_self _
  | some r =>
    obtain ⟨j, hj, hlt, hkj, r2, _, r3⟩ := find_some hk 0 h1 h2 h3 hm
    rw [Nat.zero_add] at hj
    have hlt' : j < es.size := by simpa using hlt
    have hkey : es[j].key = k.toVal := by
      have := congrArg (fun l => l[j]?) h1
      simp only [List.getElem?_map, hkj, Option.map_some] at this
      simpa [hlt'] using this
    have hbn : (es.modify j fun e => { e with key := k.toVal, val := x.toVal }).toList.map (·.born) = es.toList.map (·.born) := by
      apply List.ext_getElem?
      intro i
      simp only [List.getElem?_map, Array.getElem?_toList, Array.getElem?_modify]
      by_cases hi : j = i
      · subst hi; simp [hlt']
      · simp [hi]
    refine ⟨es.modify j fun e => { e with key := k.toVal, val := x.toVal }, clock, ?_, ?_, ?_, by rw [hbn]; exact h7, fun y hy => ?_⟩
    · unfold Instr.mapUpdate
      simp only [Sem.run_bind, run_underlying ht, Result.andThen_ok, getMap_run hg, checkKey_run hkt _ hk, hf, hj, Option.getD_some]
      have : ((es[j]?).map (·.key)).getD k.toVal = k.toVal := by simp [hlt', hkey]
      rw [this]
      simp only [Instr.keyThatStays, sameBits_refl hk, if_true, Sem.run_pure, Result.andThen_ok, setMap_run _ hg]
    · rw [r2, ← h1]
      apply List.ext_getElem?
      intro i
      simp only [List.getElem?_map, Array.getElem?_toList, Array.getElem?_modify]
      by_cases hi : j = i
      · subst hi; simp [hlt', hkey]
      · simp [hi]
    · rw [r3, List.map_set, ← h2]
      apply List.ext_getElem?
      intro i
      simp only [List.getElem?_map, Array.getElem?_toList, Array.getElem?_modify, List.getElem?_set]
      by_cases hi : j = i
      · subst hi; simp [hlt']
      · simp [hi]
    · have hy' : y.born ∈ es.toList.map (·.born) := by rw [← hbn]; exact List.mem_map.2 ⟨y, hy, rfl⟩
      obtain ⟨z, hz, he⟩ := List.mem_map.1 hy'
      have := h8 z hz
      omega
end

section
variable [Glob]
variable {P : Program} {nt : Nat} {keep : List Nat} {S : Nat → Prop} {base : Nat} {w0 : World} {env env' : Env} {a : Act} {w : World} {o : Orc}

theorem mapOf_get {n m : Nat} {ks vs : List V} (h : mapOf env n = some (m, ks, vs)) : get m env = some (.mp ks vs) ∧ (n = m ∨ get n env = some (.al m)) := by
  unfold mapOf at h
  split at h
  · cases h; exact ⟨by assumption, .inl rfl⟩
  · split at h
    · cases h; exact ⟨by assumption, .inr (by assumption)⟩
    · cases h
  · cases h
theorem mapOf_val {Im : Nat → Prop} (hE : Ents P Im w base env (tm a)) {n m : Nat} {ks vs : List V} (h : mapOf env n = some (m, ks, vs)) :
    ∃ (g : Nat) (es : Array MapEntry) (clock : Nat), tm a n = some (.map (some g)) ∧ tm a m = some (.map (some g)) ∧ base ≤ g ∧ w.heap[g]? = some (.map es clock) ∧ es.toList.map (·.key) = ks.map V.toVal ∧ es.toList.map (·.val) = vs.map V.toVal ∧ (∀ x ∈ ks, x.uniq = true) ∧ (∀ x ∈ vs, x.uniq = true) ∧ ¬ Im g ∧ (es.toList.map (·.born)).Nodup ∧ ∀ x ∈ es.toList, x.born < clock := by
  obtain ⟨hm, hn⟩ := mapOf_get h
  obtain ⟨u, hu, ⟨⟨g, es, clock, rfl, h1, h2, h3, h4, h5, h6, h7, h8⟩, hno⟩⟩ := hE.ent m _ hm
  rcases hn with rfl | hn
  · exact ⟨g, es, clock, hu, hu, h1, h2, h3, h4, h5, h6, hno g rfl, h7, h8⟩
  · obtain ⟨u', hu', he⟩ := hE.ent n _ hn
    have he : tm a m = some u' := he
    rw [hu] at he
    cases he
    exact ⟨g, es, clock, hu', hu, h1, h2, h3, h4, h5, h6, hno g rfl, h7, h8⟩

theorem step_mkm (hF : FI P nt keep S base w0 env a w) {d : Nat} (hk : d ∈ keep) (hd : d < nt) {t : TypeId} {oper : Oper} (hop : oper.op = .makeMap t none)
    (hst : stepS o env (.mkm d) = some env') : ∃ u w1, (execOp a.eval oper).run P w = .ok (.value u) w1 ∧ FI P nt keep S base w0 env' (a.put (some d) u) w1 := by
  simp only [stepS, Option.some.injEq] at hst
  subst hst
  have hbw : Below w.heap.size w (w.alloc (.map #[] 0)) := (Below.refl _ _).alloc (Nat.le_refl _) _
  refine ⟨_, _, (by simp [execOp, hop, Instr.makeMap, newObj, Sem.run] : (execOp a.eval oper).run P w = .ok (.value (.map (some w.heap.size))) (w.alloc (.map #[] 0))), hF.put_own hk hd hbw rfl (fun g hg => by simp only [blkOf, Option.some.injEq] at hg; omega) fun Im h1 h2 hE => ?_⟩
  refine ⟨Im, fun _ h => h, fun b h => ⟨.inl h, Nat.lt_of_lt_of_le (h2 b h).2 hbw.size⟩, ⟨⟨w.heap.size, #[], 0, rfl, hF.bsz, by show (w.heap.push _)[w.heap.size]? = _; simp, rfl, rfl, by simp, by simp, by simp, by simp⟩, fun g hg hI => ?_⟩⟩
  simp only [blkOf, Option.some.injEq] at hg
  subst hg
  exact absurd (h2 _ hI).2 (Nat.lt_irrefl _)

theorem zeroV_run {t : TypeId} {z : V} (h : zeroV P t = some z) (hz : z.uniq = true) (w : World) : (zeroValue t).run P w = .ok z.toVal w := by
  unfold zeroV at h
  cases hi : P.info? t with
  | none => rw [hi] at h; cases h
  | some it =>
    rw [hi] at h
    simp only [Option.bind_some] at h
    cases hzz : it.zero with
    | none => rw [hzz] at h; cases h
    | some zv =>
      rw [hzz] at h
      simp only [Option.bind_some] at h
      have := (ofConst_rep (S := fun _ => True) (w := w) h).val hz
      subst this
      simp [zeroValue, typeInfo, hi, hzz]

theorem step_mget (hF : FI P nt keep S base w0 env a w) {d : Nat} (hk : d ∈ keep) (hd : d < nt) {t : TypeId} {kt : Nat} {e : TypeId} (ht : mapTy P t = some (kt, e)) {z : V} (hz : zeroV P e = some z) {x k : Operand} {s j : Src} (hs : src x = some s) (hj : src k = some j) {oper : Oper} (hop : oper.op = .lookup t x k false)
    (hst : stepS o env (.mget d kt z s j) = some env') : ∃ u, (execOp a.eval oper).run P w = .ok (.value u) w ∧ FI P nt keep S base w0 env' (a.put (some d) u) w := by
  cases s with
  | c v => simp [stepS] at hst
  | t n =>
    have hxn := src_tmp hs
    subst hxn
    simp only [stepS, Option.bind_eq_some_iff] at hst
    obtain ⟨kv, hkv, ⟨m, ks, vs⟩, hp, hst⟩ := hst
    split at hst
    · rename_i hc
      cases hst
      simp only [Bool.and_eq_true] at hc
      obtain ⟨⟨⟨hk1, hks⟩, hcell⟩, huniq⟩ := hc
      unfold mapTy at ht
      split at ht
      · rename_i k0 e' hu
        obtain ⟨kt', hkt, he⟩ := Option.map_eq_some_iff.1 ht
        cases he
        have hkval := (src_val hF hj hkv).val (keyB_uniq hk1)
        obtain ⟨Im, hI1, hI2, hE⟩ := hF.ents
        obtain ⟨g, es, clock, hn, _, _, hg, h1, h2, h3, h4, _⟩ := mapOf_val hE hp
        have hzr : ((mfind kv ks vs).getD z).uniq = true := huniq
        have hrun : (Instr.lookup t (.map (some g)) kv.toVal false).run P w = .ok (((mfind kv ks vs).getD z).toVal) w := by
          cases hm : mfind kv ks vs with
          | none =>
            have hzu : z.uniq = true := by rw [hm] at huniq; exact huniq
            have := lookup_run hu hkt (zeroV_run hz hzu w) hg h1 h2 hk1 hks
            rw [hm] at this; exact this
          | some r =>
            -- the zero value is not asked for
            have := lookup_some hu hkt hg h1 h2 hk1 hks hm
            exact this
        refine ⟨((mfind kv ks vs).getD z).toVal, by simp only [execOp, hop, eval_tmp hn, hkval, Sem.run_bind, hrun, Result.andThen_ok, Sem.run_pure], ?_⟩
        have hr : ∀ Im : Nat → Prop, Rep Im w ((mfind kv ks vs).getD z).toVal ((mfind kv ks vs).getD z) := fun Im => rep_toVal huniq hcell
        have hsm : ((mfind kv ks vs).getD z).smp = true ∧ ((mfind kv ks vs).getD z).isOwn = false := by
          generalize (mfind kv ks vs).getD z = y at huniq hcell
          cases y <;> first | exact ⟨rfl, rfl⟩ | (simp [V.cell] at hcell; done)
        exact hF.put_rep hk hd (Below.refl _ _) hsm.1 hsm.2 fun Im _ hI2 _ => ⟨Im, fun _ h => h, fun b h => ⟨.inl h, (hI2 b h).2⟩, hr Im⟩
      · cases ht
    · cases hst

theorem FI.storeM (hF : FI P nt keep S base w0 env a w) {m : Nat} {ks vs ks' vs' : List V} (hx : get m env = some (.mp ks vs)) {g : Nat} (hu : tm a m = some (.map (some g))) {es es' : Array MapEntry} {clock clock' : Nat} (hh : w.heap[g]? = some (.map es clock))
    (h1 : es'.toList.map (·.key) = ks'.map V.toVal) (h2 : es'.toList.map (·.val) = vs'.map V.toVal) (h3 : ∀ x ∈ ks', x.uniq = true) (h4 : ∀ x ∈ vs', x.uniq = true) (h7 : (es'.toList.map (·.born)).Nodup) (h8 : ∀ x ∈ es'.toList, x.born < clock') :
    FI P nt keep S base w0 (VM.put m (.mp ks' vs') env) a { w with heap := w.heap.setIfInBounds g (.map es' clock') } := by
  obtain ⟨Im, hI1, hI2, hE⟩ := hF.ents
  have hlt := Owns.lt hE (n := m) (c := none) ⟨_, _, hx, rfl, hu, rfl⟩
  have hoth : ∀ b, b ≠ g → (w.heap.setIfInBounds g (.map es' clock'))[b]? = w.heap[b]? := fun b hb => by rw [Array.getElem?_setIfInBounds]; simp [Ne.symm hb]
  have hIm : ∀ b, Im b → (w.heap.setIfInBounds g (.map es' clock'))[b]? = w.heap[b]? := fun b hb => hoth b fun e => hlt.2.2 (e ▸ hb)
  have hsz : (w.heap.setIfInBounds g (.map es' clock')).size = w.heap.size := by simp
  have hnew : (w.heap.setIfInBounds g (.map es' clock'))[g]? = some (.map es' clock') := by rw [Array.getElem?_setIfInBounds]; simp [hlt.1]
  refine ⟨hF.srt.put m _, hF.size, hF.defers, hF.below.trans ⟨rfl, rfl, rfl, by rw [hsz]; exact Nat.le_refl _, fun k hk => hoth k (by omega)⟩, fun b hb => (hIm b (hI1 b hb)).trans (hF.kept b hb), by show base ≤ (w.heap.setIfInBounds g (.map es' clock')).size; rw [hsz]; exact hF.bsz, fun n y hy => ?_, Im, hI1, fun b hb => by show _ ∧ b < (w.heap.setIfInBounds g (.map es' clock')).size; rw [hsz]; exact hI2 b hb, ?_⟩
  · rw [get_put] at hy
    by_cases hn : n = m
    · rw [hn]; exact hF.keys m _ hx
    · rw [if_neg hn] at hy; exact hF.keys n y hy
  · refine hE.upd hx hu rfl hIm (fun n c g' hn ho => hoth g' fun e => hn ?_) (fun es' h => by simp [frz] at h) ⟨⟨g, es', clock', rfl, hlt.2.1, hnew, h1, h2, h3, h4, h7, h8⟩, fun g' hg' => by simp only [blkOf, Option.some.injEq] at hg'; subst hg'; exact hlt.2.2⟩ fun c g' ho => ?_
    · subst e
      exact (hE.apart n c m none g' ho ⟨_, _, hx, rfl, hu, rfl⟩).1
    · cases c with
      | none =>
        obtain ⟨z, v, _, _, hT, hg'⟩ := ho
        have := hu.symm.trans hT; cases this
        exact ⟨_, _, hx, rfl, hu, hg'⟩
      | some j =>
        obtain ⟨zs, _, _, _, hz, _⟩ := ho
        rw [get_put, if_pos rfl] at hz
        cases hz

theorem mkeys_mem {k x : V} : ∀ {ks : List V}, x ∈ mkeys k ks → x = k ∨ x ∈ ks
  | [], h => by simp [mkeys] at h; exact .inl h
  | y :: ks, h => by
    simp only [mkeys] at h
    split at h
    · exact .inr h
    · rcases List.mem_cons.1 h with rfl | h
      · exact .inr (List.mem_cons_self ..)
      · rcases mkeys_mem h with h | h
        · exact .inl h
        · exact .inr (List.mem_cons_of_mem _ h)
theorem mvals_mem {k v x : V} : ∀ {ks vs : List V}, x ∈ mvals k v ks vs → x = v ∨ x ∈ vs
  | [], vs, h => by
    have : mvals k v [] vs = [v] := by cases vs <;> rfl
    rw [this] at h; simp at h; exact .inl h
  | y :: ks, [], h => by simp [mvals] at h; exact .inl h
  | y :: ks, z :: vs, h => by
    simp only [mvals] at h
    split at h
    · rcases List.mem_cons.1 h with rfl | h
      · exact .inl rfl
      · exact .inr (List.mem_cons_of_mem _ h)
    · rcases List.mem_cons.1 h with rfl | h
      · exact .inr (List.mem_cons_self ..)
      · rcases mvals_mem h with h | h
        · exact .inl h
        · exact .inr (List.mem_cons_of_mem _ h)

theorem step_mset (hF : FI P nt keep S base w0 env a w) {t : TypeId} {kt : Nat} {e : TypeId} (ht : mapTy P t = some (kt, e)) {x k v : Operand} {s j l : Src} (hs : src x = some s) (hj : src k = some j) (hl : src v = some l) {oper : Oper} (hop : oper.op = .mapUpdate t x k v)
    (hst : stepS o env (.mset kt s j l) = some env') : ∃ w1, (execOp a.eval oper).run P w = .ok .skip w1 ∧ FI P nt keep S base w0 env' a w1 := by
  cases s with
  | c v => simp [stepS] at hst
  | t n =>
    have hxn := src_tmp hs
    subst hxn
    simp only [stepS, Option.bind_eq_some_iff] at hst
    obtain ⟨kv, hkv, xv, hxv, ⟨m, ks, vs⟩, hp, hst⟩ := hst
    split at hst
    · rename_i hc
      cases hst
      simp only [Bool.and_eq_true] at hc
      obtain ⟨⟨⟨hk1, hks⟩, hcell⟩, huniq⟩ := hc
      unfold mapTy at ht
      split at ht
      · rename_i k0 e' hu
        obtain ⟨kt', hkt, he⟩ := Option.map_eq_some_iff.1 ht
        cases he
        have hkval := (src_val hF hj hkv).val (keyB_uniq hk1)
        have hxval := (src_val hF hl hxv).val huniq
        obtain ⟨Im, hI1, hI2, hE⟩ := hF.ents
        obtain ⟨g, es, clock, hn, hm, _, hg, h1, h2, h3, h4, _, h7, h8⟩ := mapOf_val hE hp
        obtain ⟨es', clock', hrun, r1, r2, r3, r4⟩ := update_run (x := xv) hu hkt hg h1 h2 hk1 hks h7 h8
        refine ⟨_, by simp only [execOp, hop, eval_tmp hn, hkval, hxval, Sem.run_bind, hrun, Result.andThen_ok, Sem.run_pure]; rfl, ?_⟩
        refine hF.storeM (mapOf_get hp).1 hm hg r1 r2 (fun y hy => ?_) (fun y hy => ?_) r3 r4
        · rcases mkeys_mem hy with rfl | h
          · exact keyB_uniq hk1
          · exact h3 y h
        · rcases mvals_mem hy with rfl | h
          · exact huniq
          · exact h4 y h
      · cases ht
    · cases hst
end
end Go.VM
/-
  Steps: calls that write into a slice of the call's own. No program is named here.
-/
namespace Go.VM
open Go.RowKit
variable [Glob]

section
variable {P : Program} {nt : Nat} {keep : List Nat} {S : Nat → Prop} {base : Nat} {w0 : World} {env env' : Env} {a : Act} {w : World} {o : Orc}

theorem loose_noOwn : ∀ {ss : List Src}, noOwn env ss = true → ∀ s ∈ ss, Loose env s
  | [], _, s, hs => by cases hs
  | s0 :: r, h, s, hs => by
    simp only [noOwn, Bool.and_eq_true] at h
    rcases List.mem_cons.1 hs with rfl | hs
    · intro m x hm hx
      have := h.1
      rw [hm] at this; cases this
    · exact loose_noOwn h.2 s hs

theorem put_same' {a : Act} {m : Nat} {u : Value} (h : tm a m = some u) : a.put (some m) u = a := by
  have h' : a.tmps[m]? = some u := h
  obtain ⟨hlt, he⟩ := Array.getElem?_eq_some_iff.1 h'
  unfold Act.put
  have : a.tmps.setIfInBounds m u = a.tmps := by
    apply Array.ext_getElem?
    intro i
    rw [Array.getElem?_setIfInBounds]
    split
    · rename_i e; subst e; exact h'.symm
    · rfl
  simp only [this]

theorem args_sound {Im : Nat → Prop} (hE : Ents P Im w base env (tm a)) {m : Nat} {u : Value} (hum : tm a m = some u) {e : Nat} {es : List V} (hm : get m env = some (.ow e es)) : ∀ {xs : List Operand} {ss : List Src} {vs : List V}, srcs xs = some ss → lookMs env ss = some vs → ownsNot env m ss = true → Args P Im w base u (xs.map a.eval) vs
  | [], ss, vs, hs, hl, _ => by
    simp only [srcs, Option.some.injEq] at hs
    subst hs
    simp only [lookMs, Option.some.injEq] at hl
    subst hl
    exact Args.nil
  | x :: xs, ss, vs, hs, hl, hno => by
    simp only [srcs, Option.bind_eq_some_iff, Option.some.injEq] at hs
    obtain ⟨s, h1, ss', h2, rfl⟩ := hs
    simp only [lookMs, Option.bind_eq_some_iff, Option.some.injEq] at hl
    obtain ⟨v, h3, vs', h4, rfl⟩ := hl
    simp only [ownsNot, Bool.and_eq_true, bne_iff_ne, ne_eq] at hno
    refine Args.cons ?_ (args_sound hE hum hm h2 h4 hno.2)
    unfold lookM at h3
    split at h3
    · rename_i hn
      exact .of_rep (src_loose hE h1 (fun k y hk _ => by rw [Option.isNone_iff_eq_none.1 hn] at hk; cases hk) h3)
    · cases s with
      | c v => cases h3
      | t n =>
        have hxt : x = .tmp n := by
          cases x with
          | tmp k => simp only [src, Option.some.injEq, Src.t.injEq] at h1; rw [h1]
          | const c => simp only [src] at h1; cases hc : ofConst c <;> rw [hc] at h1 <;> simp at h1
          | func g => simp [src] at h1
          | global g => simp only [src] at h1; cases hc : globV g <;> rw [hc] at h1 <;> simp at h1
        subst hxt
        have key : ∀ (k : Nat) (e' : Nat) (es' : List V) (u' : Value), get k env = some (.ow e' es') → tm a k = some u' → k ≠ m → Arg1 P Im w base u u' (.ow e' es') := by
          intro k e' es' u' hk hu' hkm
          obtain ⟨u'', hu'', hent⟩ := hE.ent k _ hk
          have := hu'.symm.trans hu''; cases this
          refine ⟨hent.1, hent.2, fun g hg hg' => hkm ?_⟩
          exact (hE.apart k none m none g ⟨_, u', hk, rfl, hu', hg⟩ ⟨_, u, hm, rfl, hum, hg'⟩).1
        simp only at h3
        cases hx : get n env with
        | none => rw [hx] at h3; cases h3
        | some y =>
          rw [hx] at h3
          obtain ⟨u', hu', hent⟩ := hE.ent n _ hx
          rw [eval_tmp hu']
          cases y <;> first | (cases h3; done) | skip
          · rename_i e' es'
            cases h3
            refine key n e' es' u' hx hu' fun hnm => hno.1 ?_
            subst hnm; simp [owner, hx, V.names, V.isOwn]
          · rename_i k
            simp only at h3
            cases hk : get k env with
            | none => rw [hk] at h3; cases h3
            | some z =>
              rw [hk] at h3
              cases z <;> first | (cases h3; done) | skip
              rename_i e' es'
              cases h3
              refine key k e' es' u' hk hent fun hkm => hno.1 ?_
              subst hkm; simp [owner, hx, V.names]

theorem srcs_pick : ∀ {n : Nat} {l : List Operand} {ss : List Src} {p : Src × List Src}, pickAt n ss = some p → srcs l = some ss → ∃ x xr, l = insAt n x xr ∧ src x = some p.1 ∧ srcs xr = some p.2
  | 0, l, [], p, hp, _ => by cases hp
  | n + 1, l, [], p, hp, _ => by cases hp
  | n, [], s :: ss, p, hp, hs => by simp [srcs] at hs
  | 0, x :: l, s :: ss, p, hp, hs => by
    simp only [pickAt, Option.some.injEq] at hp
    subst hp
    simp only [srcs, Option.bind_eq_some_iff, Option.some.injEq, List.cons.injEq] at hs
    obtain ⟨s', h1, ss', h2, rfl, rfl⟩ := hs
    exact ⟨x, l, rfl, h1, h2⟩
  | n + 1, x :: l, s :: ss, p, hp, hs => by
    simp only [pickAt, Option.map_eq_some_iff] at hp
    obtain ⟨q, hq, rfl⟩ := hp
    simp only [srcs, Option.bind_eq_some_iff, Option.some.injEq, List.cons.injEq] at hs
    obtain ⟨s', h1, ss', h2, rfl, rfl⟩ := hs
    obtain ⟨x', xr, rfl, h3, h4⟩ := srcs_pick hq h2
    exact ⟨x', x :: xr, rfl, h3, by simp only [srcs, h1, h4, Option.bind_some]⟩
theorem step_callm (ho : SoundO P o) (hF : FI P nt keep S base w0 env a w) {d : Option Nat} (hkd : ∀ d', d = some d' → d' ∈ keep ∧ d' < nt) {f : Nat} {mu : Mut} (hmu : Glob.muts.lookup f = some mu) {x : Operand} {xs : List Operand} {s : Src} {ss : List Src} (hs : src x = some s) (hss : srcs xs = some ss) {oper : Oper}
    (henter : (execOp a.eval oper).run P w = .ok (.enter f (insAt mu.pos (a.eval x) (xs.map a.eval)).toArray) w) (hst : stepS o env (.callm d f mu s ss) = some env') :
    Outc P ((execOp a.eval oper).run P w) fun u w1 => FI P nt keep S base w0 env' (a.put d u) w1 := by
  cases s with
  | c v =>
    have hcv : ∃ c, x = .const c ∧ ofConst c = some v ∨ ∃ cs, v = .r cs := by
      cases x with
      | tmp k => simp [src] at hs
      | const c =>
        simp only [src] at hs
        cases hc : ofConst c with
        | none => rw [hc] at hs; simp at hs
        | some v' => rw [hc] at hs; simp only [Option.map_some, Option.some.injEq, Src.c.injEq] at hs; subst hs; exact ⟨c, .inl ⟨rfl, hc⟩⟩
      | func g => simp only [src, Option.some.injEq, Src.c.injEq] at hs; subst hs; simp [stepS] at hst
      | global g =>
        simp only [src] at hs
        cases hc : globV g with
        | none => rw [hc] at hs; simp at hs
        | some v' =>
          rw [hc] at hs; simp only [Option.map_some, Option.some.injEq, Src.c.injEq] at hs; subst hs
          obtain ⟨cs, rfl⟩ := globV_kind hc
          exact ⟨.bool true, .inr ⟨cs, rfl⟩⟩
    obtain ⟨c, ⟨rfl, hcv⟩ | ⟨cs, rfl⟩⟩ := hcv
    · cases v <;> first | (simp [stepS] at hst; done) | skip
      rename_i es0
      cases es0 with
      | cons _ _ => simp [stepS] at hst
      | nil =>
        have hcn : c = .slice none 0 0 := by
          have hcell : ofCell c = some (.l []) := by
            unfold ofConst at hcv
            split at hcv
            · rename_i cs
              cases hq : ofCells cs.toList with
              | none => rw [hq] at hcv; cases hcv
              | some q => rw [hq] at hcv; cases hcv
            · exact hcv
          unfold ofCell at hcell
          split at hcell <;> first | rfl | (cases hcell; done)
        subst hcn
        simp only [stepS] at hst
        cases hl : lookSs env ss with
        | none => rw [hl] at hst; cases hst
        | some vs =>
          rw [hl] at hst
          simp only [Option.bind_some] at hst
          split at hst
          · rename_i hc
            obtain ⟨hre, hno⟩ := hc
            cases hrun : mu.run [] vs with
            | none => rw [hrun] at hst; cases hst
            | some es' =>
              rw [hrun] at hst
              simp only [Option.bind_some] at hst
              cases d with
              | none => cases hst
              | some d0 =>
                simp only [Option.map_some, Option.some.injEq] at hst
                subst hst
                obtain ⟨hk, hd⟩ := hkd d0 rfl
                obtain ⟨Im, hI1, hI2, hE⟩ := hF.ents
                have hr := srcs_loose hE hss (loose_noOwn hno) hl
                have hP := (ho.1 f mu hmu).2 [] vs es' hrun Im w base (.slice none 0 0) [] (xs.map a.eval) (fun b h => (hI2 b h).2) hE.glob hF.bsz (World.ownsRow_nil w base mu.ty (P.cellsOf mu.ty)) (by simp) (by simp [flatc]) Reps.nil (fun g hg => by cases hg) (.of_reps hr) (fun _ => rfl)
                rw [henter]
                refine hP.mono fun ex w' ⟨r, v', vs', he, hg, hv', how', hk', hc', hr', hret⟩ => ⟨r, he, ?_⟩
                rw [if_pos hre] at hret
                subst hret
                exact hF.grown hk hd hF.srt (fun _ _ h => h) (fun q x j hq hj => hE.closed q x j hq hj) hI1 hI2 hE (row := (Value.slice none 0 0).ownBlock) (fun g hg => by cases hg) hg hv' how' hk' hc' hr'
          · cases hst
    · simp [stepS] at hst
  | t n =>
    have hxt : x = .tmp n := by
      cases x with
      | tmp k => simp only [src, Option.some.injEq, Src.t.injEq] at hs; rw [hs]
      | const c => simp only [src] at hs; cases hc : ofConst c <;> rw [hc] at hs <;> simp at hs
      | func g => simp [src] at hs
      | global g => simp only [src] at hs; cases hc : globV g <;> rw [hc] at hs <;> simp at hs
    subst hxt
    simp only [stepS] at hst
    cases hl : lookMs env ss with
    | none => rw [hl] at hst; cases hst
    | some vs =>
      rw [hl] at hst
      simp only [Option.bind_some] at hst
      cases how : rowOf env n with
      | none => rw [how] at hst; cases hst
      | some m =>
        rw [how] at hst
        simp only [Option.bind_some] at hst
        cases hm : get m env with
        | none => rw [hm] at hst; cases hst
        | some q =>
          rw [hm] at hst
          simp only [Option.bind_some] at hst
          cases q <;> first | (cases hst; done) | skip
          rename_i e es
          simp only at hst
          split at hst
          · rename_i hc
            obtain ⟨rfl, hnl, hno⟩ := hc
            cases hrun : mu.run es vs with
            | none => rw [hrun] at hst; cases hst
            | some es' =>
              rw [hrun] at hst
              simp only [Option.bind_some] at hst
              obtain ⟨Im, hI1, hI2, hE⟩ := hF.ents
              obtain ⟨u, hum, hent⟩ := hE.ent m _ hm
              have hn : a.eval (.tmp n) = u ∧ ∃ x, get n env = some x ∧ (n = m ∨ x.names = some m) := by
                unfold rowOf at how
                split at how
                · rename_i q hx
                  cases how
                  obtain ⟨u', hu', he'⟩ := hE.ent n _ hx
                  have := hum.symm.trans he'; cases this
                  exact ⟨eval_tmp hu', _, hx, .inr rfl⟩
                · rename_i hx
                  cases how
                  exact ⟨eval_tmp hum, _, hx, .inl rfl⟩
                · cases how
              obtain ⟨hx, xn, hxn, hnn⟩ := hn
              obtain ⟨⟨ws, hvo, hvk, hvc, hvr⟩, hng⟩ := hent
              have hr := args_sound hE hum hm hss hl hno
              have hP := (ho.1 f mu hmu).2 es vs es' hrun Im w base u ws (xs.map a.eval) (fun b h => (hI2 b h).2) hE.glob hF.bsz hvo hvk hvc hvr (fun g hg => hng g (by rw [← ownsRow_blk hvo]; exact hg)) hr (fun h => by rw [hnl] at h; cases h)
              rw [henter, hx]
              have hs1 : Srt (del m env) := hF.srt.filter _
              have hs2 : Srt (purge m (del m env)) := hs1.filter _
              have hs3 : Srt (purge n (purge m (del m env))) := hs2.filter _
              have hsub2 : ∀ q x, get q (purge m (del m env)) = some x → get q env = some x ∧ q ≠ m ∧ x.names ≠ some m := by
                intro q x hq
                rw [get_purge hs1, get_del hF.srt] at hq
                by_cases hqm : q = m
                · rw [if_pos hqm] at hq; cases hq
                · rw [if_neg hqm] at hq
                  cases hq' : get q env with
                  | none => rw [hq'] at hq; cases hq
                  | some x' =>
                    rw [hq'] at hq
                    simp only [Option.bind_some] at hq
                    split at hq
                    · cases hq
                    · cases hq; exact ⟨rfl, hqm, ‹_›⟩
              have hsub : ∀ q x, get q (purge n (purge m (del m env))) = some x → get q env = some x ∧ q ≠ m ∧ x.names ≠ some m ∧ x.names ≠ some n := by
                intro q x hq
                rw [get_purge hs2] at hq
                cases hq' : get q (purge m (del m env)) with
                | none => rw [hq'] at hq; cases hq
                | some x' =>
                  rw [hq'] at hq
                  simp only [Option.bind_some] at hq
                  split at hq
                  · cases hq
                  · cases hq
                    obtain ⟨h1, h2, h3⟩ := hsub2 q x hq'
                    exact ⟨h1, h2, h3, ‹_›⟩
              have hsup2 : ∀ q x, q ≠ m → get q env = some x → x.names ≠ some m → get q (purge m (del m env)) = some x := by
                intro q x hqm hq h1
                rw [get_purge hs1, get_del hF.srt, if_neg hqm, hq]
                simp only [Option.bind_some]
                rw [if_neg h1]
              have hsup : ∀ q x, q ≠ m → get q env = some x → x.names ≠ some m → x.names ≠ some n → get q (purge n (purge m (del m env))) = some x := by
                intro q x hqm hq h1 h2
                rw [get_purge hs2, hsup2 q x hqm hq h1]
                simp only [Option.bind_some]
                rw [if_neg h2]
              have hrow2 : ∀ g, u.ownBlock = some g → base ≤ g ∧ ¬ Im g ∧ ∀ n' c, ¬ Owns (purge m (del m env)) (tm a) n' c g := by
                intro g hg
                have hbu : blkOf u = some g := by rw [← ownsRow_blk hvo]; exact hg
                have ho : Owns env (tm a) m none g := ⟨_, u, hm, rfl, hum, hbu⟩
                have hlt := Owns.lt hE ho
                refine ⟨hlt.2.1, hlt.2.2, fun q c' hq => ?_⟩
                have hqo : Owns env (tm a) q c' g ∧ q ≠ m := by
                  cases c' with
                  | none => obtain ⟨x, v, hx, h⟩ := hq; exact ⟨⟨x, v, (hsub2 _ _ hx).1, h⟩, (hsub2 _ _ hx).2.1⟩
                  | some j => obtain ⟨zs, us, x, v, hx, h⟩ := hq; exact ⟨⟨zs, us, x, v, (hsub2 _ _ hx).1, h⟩, (hsub2 _ _ hx).2.1⟩
                exact hqo.2 (hE.apart _ _ _ _ _ hqo.1 ho).1
              refine hP.mono fun ex w' ⟨r, v', vs', he, hg, hv', how', hk', hc', hr', hret⟩ => ⟨r, he, ?_⟩
              by_cases hre : mu.ret = true
              · rw [if_pos hre] at hst hret
                cases d with
                | none => cases hst
                | some d0 =>
                  simp only [Option.map_some, Option.some.injEq] at hst
                  subst hst hret
                  obtain ⟨hk, hd⟩ := hkd d0 rfl
                  refine hF.grown hk hd hs3 (fun q x h => (hsub q x h).1) (fun q x j hq hj => ?_) hI1 hI2 hE (row := u.ownBlock) (fun g hg => ?_) hg hv' how' hk' hc' hr'
                  · obtain ⟨g1, g2, g3, g4⟩ := hsub q x hq
                    obtain ⟨z, hz, hzn⟩ := hE.closed q x j g1 hj
                    exact ⟨z, hsup j z (fun e => g3 (by rw [← e]; exact hj)) hz (by rw [hzn]; simp) (by rw [hzn]; simp), hzn⟩
                  · obtain ⟨h1, h2, h3⟩ := hrow2 g hg
                    refine ⟨h1, h2, fun q c' hq => h3 q c' ?_⟩
                    have hs' : ∀ q x, get q (purge n (purge m (del m env))) = some x → get q (purge m (del m env)) = some x := fun q x h => by
                      obtain ⟨g1, g2, g3, _⟩ := hsub q x h
                      exact hsup2 q x g2 g1 g3
                    cases c' with
                    | none => obtain ⟨x, v, hx, h⟩ := hq; exact ⟨x, v, hs' _ _ hx, h⟩
                    | some j => obtain ⟨zs, us, x, v, hx, h⟩ := hq; exact ⟨zs, us, x, v, hs' _ _ hx, h⟩
              · rw [if_neg hre] at hst hret
                obtain ⟨rfl, rfl⟩ := hret
                simp only [Option.some.injEq] at hst
                subst hst
                obtain ⟨hk, hd⟩ := hF.keys m _ hm
                have hFm := hF.grown hk hd hs2 (fun q x h => (hsub2 q x h).1) (fun q x j hq hj => by
                  obtain ⟨g1, g2, g3⟩ := hsub2 q x hq
                  obtain ⟨z, hz, hzn⟩ := hE.closed q x j g1 hj
                  exact ⟨z, hsup2 j z (fun e => g3 (by rw [← e]; exact hj)) hz (by rw [hzn]; simp), hzn⟩) hI1 hI2 hE (row := v'.ownBlock) hrow2 hg hv' how' hk' hc' hr'
                rw [put_same' hum] at hFm
                obtain ⟨Im', hJ1, hJ2, hE'⟩ := hFm.ents
                exact hFm.put_res hkd (Below.refl _ _) hJ1 hJ2 hE' (fun _ h => h) (fun b h => ⟨.inl h, (hJ2 b h).2⟩) (v := .tuple #[]) (y := .t []) ⟨[], rfl, rfl, fun j u y h => by simp at h, fun i j u u' y y' g _ h => by simp at h⟩
          · cases hst
end
end Go.VM
