/-
  Steps: quiet operations, addresses, struct values, pieces of slices, closures. No program is named here.
-/
import Derived.Test.YtonibcnbcnibeaaVm9d
namespace Go.VM
open Go.RowKit

section
variable {P : Program} {nt : Nat} {keep : List Nat} {S : Nat → Prop} {base : Nat} {w0 : World} {env env' : Env} {a : Act} {w : World} {o : Orc}

/-- A slot is written with what an operation yields, which all may read. -/
theorem FI.put_run (hF : FI P nt keep S base w0 env a w) {d : Nat} (hk : d ∈ keep) (hd : d < nt) {x : V} {s : Sem Next} {w1 : World} (hb : Below w.heap.size w w1)
    (h : ∀ Im : Nat → Prop, (∀ b, S b → Im b) → (∀ b, Im b → (S b ∨ base ≤ b) ∧ b < w.heap.size) → Ents P Im w base env (tm a) → ∃ u, s.run P w = .ok (.value u) w1 ∧ x.smp = true ∧ ∃ Im1 : Nat → Prop, (∀ b, Im b → Im1 b) ∧ (∀ b, Im1 b → (Im b ∨ w.heap.size ≤ b) ∧ b < w1.heap.size) ∧ Rep Im1 w1 u x) :
    ∃ u, s.run P w = .ok (.value u) w1 ∧ FI P nt keep S base w0 (put' d x env) (a.put (some d) u) w1 := by
  obtain ⟨Im0, h1, h2, hE0⟩ := hF.ents
  obtain ⟨u, hu, hsmp, Im1, _, _, hr⟩ := h Im0 h1 h2 hE0
  refine ⟨u, hu, hF.put_rep hk hd hb hsmp (rep_kind hr) fun Im h3 h4 hE => ?_⟩
  obtain ⟨u', hu', _, Im1', h5, h6, hr'⟩ := h Im h3 h4 hE
  have := hu.symm.trans hu'
  simp only [Result.ok.injEq, Next.value.injEq, and_true] at this
  subst this
  exact ⟨Im1', h5, h6, hr'⟩
theorem FI.put_run_own (hF : FI P nt keep S base w0 env a w) {d : Nat} (hk : d ∈ keep) (hd : d < nt) {x : V} (hown : x.isOwn = true) {s : Sem Next} {w1 : World} (hb : Below w.heap.size w w1)
    (h : ∀ Im : Nat → Prop, (∀ b, S b → Im b) → (∀ b, Im b → (S b ∨ base ≤ b) ∧ b < w.heap.size) → Ents P Im w base env (tm a) → ∃ u, s.run P w = .ok (.value u) w1 ∧ (∀ g, blkOf u = some g → w.heap.size ≤ g) ∧ ∃ Im1 : Nat → Prop, (∀ b, Im b → Im1 b) ∧ (∀ b, Im1 b → (Im b ∨ w.heap.size ≤ b) ∧ b < w1.heap.size) ∧ Res1 P Im1 w1 base u x) :
    ∃ u, s.run P w = .ok (.value u) w1 ∧ FI P nt keep S base w0 (put' d x env) (a.put (some d) u) w1 := by
  obtain ⟨Im0, h1, h2, hE0⟩ := hF.ents
  obtain ⟨u, hu, hfr, _⟩ := h Im0 h1 h2 hE0
  refine ⟨u, hu, hF.put_own hk hd hb hown hfr fun Im h3 h4 hE => ?_⟩
  obtain ⟨u', hu', _, Im1', h5, h6, hr'⟩ := h Im h3 h4 hE
  have := hu.symm.trans hu'
  simp only [Result.ok.injEq, Next.value.injEq, and_true] at this
  subst this
  exact ⟨Im1', h5, h6, hr'⟩

theorem smp_of {u : Value} {v : V} (h : Rep S w u v) (hv : ∀ ys, v ≠ .t ys) : v.smp = true := by
  rcases (flat_smp h).2.2 with h | ⟨ys, rfl⟩
  · exact h
  · exact absurd rfl (hv ys)

theorem lookS_ptr {Im : Nat → Prop} (hE : Ents P Im w base env (tm a)) {x : Operand} {s : Src} (hs : src x = some s) {cs : List V} (hv : lookS env s = some (.r cs)) :
    ∃ (ad : Addr) (vs : List Value), a.eval x = .pointer (some ad) ∧ (∀ x ∈ cs, x.cell = true) ∧ Reps Im w vs cs ∧ ∀ (j : Nat) u, vs[j]? = some u → w.cell? (ad.add j) = some u := by
  cases x with
  | tmp n =>
    simp only [src, Option.some.injEq] at hs
    subst hs
    obtain ⟨ad, vs, h1, h⟩ := look_ptr hE hv
    exact ⟨ad, vs, eval_tmp h1, h⟩
  | const c =>
    simp only [src] at hs
    cases hc : ofConst c with
    | none => rw [hc] at hs; cases hs
    | some c' =>
      rw [hc] at hs
      cases hs
      simp only [lookS, Option.some.injEq] at hv
      rw [(ofConst_kind hc).2.2] at hv
      subst hv
      exfalso
      unfold ofConst at hc
      split at hc
      · rename_i cs'; cases h : ofCells cs'.toList <;> rw [h] at hc <;> cases hc
      · unfold ofCell at hc
        split at hc <;> cases hc
  | func f =>
    simp only [src, Option.some.injEq] at hs
    subst hs
    simp [lookS, frz] at hv
  | global g => simp [src] at hs

/-- A quiet operation. -/
theorem step_q (hF : FI P nt keep S base w0 env a w) {d : Nat} (hk : d ∈ keep) (hd : d < nt) {op : Op} {p : XOp} {xs : List Operand} {ss : List Src} (hq : qop P op = some (p, xs)) (hp : p.plain = true) (hs : srcs xs = some ss) {oper : Oper} (hop : oper.op = op)
    (hst : stepS o env (.q d p ss) = some env') : ∃ u, (execOp a.eval oper).run P w = .ok (.value u) w ∧ FI P nt keep S base w0 env' (a.put (some d) u) w := by
  simp only [stepS] at hst
  cases hl : lookSs env ss with
  | none => rw [hl] at hst; cases hst
  | some vs =>
    rw [hl] at hst
    simp only [Option.bind_some] at hst
    cases hv : opQ o p vs with
    | none => rw [hv] at hst; cases hst
    | some r =>
      rw [hv] at hst
      simp only [Option.bind_some] at hst
      split at hst
      · rename_i hfl
        cases hst
        by_cases hf1 : r.flat1 = true
        · obtain ⟨u, hu, hrun⟩ := qop_plain hq hp a.eval oper hop vs r (srcs_val hF hs hl) hv
          exact ⟨u, hrun w fun _ _ => rfl, hF.put_flat hk hd (Below.refl _ _) hu hf1⟩
        · have hld : p.loads = true := by simpa [hf1] using hfl
          cases p <;> first | (simp [XOp.loads] at hld; done) | skip
          rename_i n ag
          obtain ⟨t, x, rfl, rfl, hok, rfl, rfl⟩ := qop_ld_inv hq
          obtain ⟨cs, rfl, hcl, hval⟩ := inv_ld hv
          simp only [srcs, Option.bind_eq_some_iff, Option.some.injEq] at hs
          obtain ⟨s, hsx, _, rfl, rfl⟩ := hs
          simp only [lookSs, Option.bind_eq_some_iff, Option.some.injEq, List.cons.injEq] at hl
          obtain ⟨v, hls, _, rfl, rfl, _⟩ := hl
          refine hF.put_run hk hd (Below.refl _ _) fun Im h1 h2 hE => ?_
          obtain ⟨ad, us, hev, hc, hr, hcell⟩ := lookS_ptr hE hsx hls
          obtain ⟨u, hru, hrun⟩ := load_at hok hc hr hcell hcl hval
          refine ⟨u, by simp only [execOp, hop, hev, Sem.run_bind, hrun, Result.andThen_ok, Sem.run_pure], smp_of hru fun ys e => ?_, Im, fun _ h => h, fun b h => ⟨.inl h, (h2 b h).2⟩, hru⟩
          subst e
          split at hval
          · cases hval
          · exact absurd (hc _ (List.mem_of_getElem? hval)) (by simp [V.cell])
      · cases hst

/-- A quiet operation whose result may hold what its operands hold. -/
theorem step_qf (hF : FI P nt keep S base w0 env a w) {d : Nat} (hk : d ∈ keep) (hd : d < nt) {op : Op} {p : XOp} {xs : List Operand} {ss : List Src} (hq : qop P op = some (p, xs)) (hp : p.plain = true) (hs : srcs xs = some ss) {oper : Oper} (hop : oper.op = op)
    {vs : List V} (hl : lookSs env ss = some vs) {r : V} (hv : opQ o p vs = some r) (hr : ∀ ys, r ≠ .t ys) : ∃ u, (execOp a.eval oper).run P w = .ok (.value u) w ∧ FI P nt keep S base w0 (put' d r (freeze env ss)) (a.put (some d) u) w := by
  refine (hF.freeze ss).put_run hk hd (Below.refl _ _) fun Im h1 h2 hE => ?_
  obtain ⟨u, hu, hrun⟩ := qop_plain hq hp a.eval oper hop vs r (srcs_loose hE hs (loose_freeze ss env).2 (by rw [lookSs_freeze]; exact hl)) hv
  exact ⟨u, hrun w fun _ _ => rfl, smp_of hu hr, Im, fun _ h => h, fun b h => ⟨.inl h, (h2 b h).2⟩, hu⟩

theorem fieldAt_run {t : TypeId} {fs : Array Field} {i : Nat} {f : Field} (hu : P.underlying t = some (.struct fs)) (hf : fs[i]? = some f) (hpos : 0 < P.cellsOf f.type) (ad : Addr) :
    (Instr.fieldAt t (.pointer (some ad)) i).run P w = .ok (.pointer (some (ad.add f.offset))) w := by
  obtain ⟨i0, hi0⟩ : ∃ i0, P.info? f.type = some i0 := by
    unfold Program.cellsOf at hpos
    cases h : P.info? f.type with
    | none => rw [h] at hpos; simp at hpos
    | some i0 => exact ⟨i0, rfl⟩
  have hne : P.cellsOf f.type ≠ 0 := by omega
  simp [Instr.fieldAt, run_underlying hu, hf, Instr.sureAddr, fieldPlace, run_sizeOf w hi0, hne]

theorem indexAt_run {t e : TypeId} (hu : P.underlying t = some (.slice e)) (he : (P.underlying e).isSome = true) (ad : Addr) (l c : Nat) (k : IntKind) (n : Int) (h0 : 0 ≤ n) (hn : n.toNat < l) :
    (Instr.indexAt t (.slice (some ad) l c) (.int k n)).run P w = .ok (.pointer (some (ad.add (n.toNat * P.cellsOf e)))) w := by
  obtain ⟨d, hd⟩ := Option.isSome_iff_exists.1 he
  have : n < (l : Int) := by omega
  simp [Instr.indexAt, asIntOf, run_underlying hu, h0, this, sizeOf_run hd]

/-- An element's address. -/
theorem step_ix (hF : FI P nt keep S base w0 env a w) {d : Nat} (hk : d ∈ keep) (hd : d < nt) {t e : TypeId} {x i : Operand} {s j : Src} {oper : Oper} (hop : oper.op = .indexAddr t x i) (hu : P.underlying t = some (.slice e)) (he : (P.underlying e).isSome = true)
    (hs : src x = some s) (hj : src i = some j) (hst : stepS o env (.ix d (P.cellsOf e) s j) = some env') : ∃ u, (execOp a.eval oper).run P w = .ok (.value u) w ∧ FI P nt keep S base w0 env' (a.put (some d) u) w := by
  simp only [stepS] at hst
  cases hlj : lookS env j with
  | none => rw [hlj] at hst; cases hst
  | some jv =>
    rw [hlj] at hst
    simp only [Option.bind_some] at hst
    cases jv <;> first | (cases hst; done) | skip
    rename_i kk m
    simp only at hst
    split at hst
    · rename_i h0
      have hiv := src_val hF hj hlj
      have heval : a.eval i = .int kk m := by generalize a.eval i = q at hiv; cases hiv; rfl
      cases hls : lookS env s with
      | none => rw [hls] at hst; cases hst
      | some sv =>
        rw [hls] at hst
        simp only [Option.bind_some] at hst
        cases sv <;> first | (cases hst; done) | skip
        rename_i es
        simp only at hst
        cases hel : es[m.toNat]? with
        | none => rw [hel] at hst; cases hst
        | some el =>
          rw [hel] at hst
          simp only [Option.bind_some] at hst
          have hlt : m.toNat < es.length := (List.getElem?_eq_some_iff.1 hel).1
          have hne : es ≠ [] := fun e => by subst e; simp at hel
          split at hst
          · rename_i hkl
            cases how : owner env s with
            | none =>
              rw [how] at hst
              simp only [Option.some.injEq] at hst
              subst hst
              refine hF.put_run hk hd (Below.refl _ _) fun Im h1 h2 hE => ?_
              have hrs := src_loose hE hs (fun m x hm => by rw [how] at hm; cases hm) hls
              obtain ⟨u, hru, hrun⟩ := ix_run hu he _ (.int kk m) es kk m el hrs (.i _ _) h0 hel hkl
              exact ⟨u, by simp only [execOp, hop, heval, Sem.run_bind, hrun w, Result.andThen_ok, Sem.run_pure], rfl, Im, fun _ h => h, fun b h => ⟨.inl h, (h2 b h).2⟩, hru⟩
            | some m' =>
              rw [how] at hst
              simp only at hst
              split at hst
              · cases hst
              · rename_i hmd
                cases hst
                obtain ⟨Im0, _, _, hE0⟩ := hF.ents
                cases s with
                | c v => simp [owner] at how
                | t n =>
                  have hxn : x = .tmp n := by
                    cases x with
                    | tmp n' => simp only [src, Option.some.injEq, Src.t.injEq] at hs; subst hs; rfl
                    | const c => simp only [src] at hs; cases hc : ofConst c <;> rw [hc] at hs <;> cases hs
                    | func f => simp [src] at hs
                    | global g => simp [src] at hs
                  subst hxn
                  -- the owner's slot holds the slice
                  have key : ∃ (y : V) (u : Value), get m' env = some y ∧ tm a m' = some u ∧ tm a n = some u ∧ frz y = .l es ∧ y.names = none ∧ y.smp = true := by
                    simp only [owner] at how
                    cases hx : get n env with
                    | none => rw [hx] at how; cases how
                    | some y =>
                      rw [hx] at how
                      simp only at how
                      have hlk : look env n = some (.l es) := hls
                      unfold look at hlk
                      rw [hx] at hlk
                      obtain ⟨u, hun, hent⟩ := hE0.ent n y hx
                      cases y with
                      | al q =>
                        simp only [V.names, Option.some.injEq] at how
                        subst how
                        simp only at hlk
                        cases hz : get q env with
                        | none => rw [hz] at hlk; cases hlk
                        | some z =>
                          rw [hz] at hlk
                          obtain ⟨h1, h2⟩ := rd_some (show rd z = some (.l es) from hlk)
                          obtain ⟨z', hz', hzn⟩ := hE0.closed n _ q hx rfl
                          rw [hz] at hz'; cases hz'
                          exact ⟨z, u, rfl, hent, hun, h2.symm, hzn, h1⟩
                      | ow e' es' =>
                        simp only [V.names, V.isOwn, if_true, Option.some.injEq] at how
                        subst how
                        obtain ⟨h1, h2⟩ := rd_some (show rd (V.ow e' es') = some (.l es) from hlk)
                        exact ⟨_, u, hx, hun, hun, h2.symm, rfl, h1⟩
                      | bx cs => simp [rd, frz] at hlk
                      | pe q i' off sz =>
                        simp only at hlk
                        cases hz : (get q env).bind rd with
                        | none => rw [hz] at hlk; cases hlk
                        | some z =>
                          rw [hz] at hlk
                          cases z <;> first | (cases hlk; done) | skip
                          simp only [Option.bind_eq_some_iff, Option.map_eq_some_iff] at hlk
                          obtain ⟨_, _, _, _, h⟩ := hlk
                          cases h
                      | pb q off sz =>
                        simp only at hlk
                        cases hz : (get q env).bind rd with
                        | none => rw [hz] at hlk; cases hlk
                        | some z =>
                          rw [hz] at hlk
                          cases z <;> first | (cases hlk; done) | skip
                          simp only [Option.map_eq_some_iff] at hlk
                          obtain ⟨_, _, h⟩ := hlk
                          cases h
                      | _ => simp [V.names, V.isOwn] at how
                  obtain ⟨y, u, hy, hum, hun, hfy, hyn, hys⟩ := key
                  obtain ⟨u', hu', hey⟩ := hE0.ent m' y hy
                  have := hum.symm.trans hu'; cases this
                  rw [Ent.res1 hys] at hey
                  obtain ⟨ad, c, k, vs, rfl, hk', hc, hr, hcell⟩ := slot_row hey hfy hne
                  have hkk : k = P.cellsOf e := by rw [← hkl]; exact (hk' el (List.mem_of_getElem? hel)).symm
                  subst hkk
                  refine ⟨.pointer (some (ad.add (m.toNat * P.cellsOf e))), ?_, ?_⟩
                  · simp only [execOp, hop, heval, eval_tmp hun, Sem.run_bind, indexAt_run hu he ad es.length c kk m h0 hlt, Result.andThen_ok, Sem.run_pure]
                  · refine hF.put_names hk hd (m := m') rfl hmd hy hyn fun Im hE => ?_
                    refine ⟨ad, es.length, c, P.cellsOf e, hum, rfl, fun z es' hz hfz => ?_⟩
                    rw [hy] at hz; cases hz
                    rw [hfy] at hfz; cases hfz
                    exact hk'
          · cases hst
    · cases hst

/-- A field's address. -/
theorem step_fa (hF : FI P nt keep S base w0 env a w) {d : Nat} (hk : d ∈ keep) (hd : d < nt) {t : TypeId} {fs : Array Field} {i : Nat} {f : Field} {x : Operand} {s : Src} {oper : Oper} (hop : oper.op = .fieldAddr t x i) (hu : P.underlying t = some (.struct fs)) (hf : fs[i]? = some f) (hpos : 0 < P.cellsOf f.type)
    (hs : src x = some s) (hst : stepS o env (.fa d f.offset (P.cellsOf f.type) s) = some env') : ∃ u, (execOp a.eval oper).run P w = .ok (.value u) w ∧ FI P nt keep S base w0 env' (a.put (some d) u) w := by
  cases s with
  | c v => simp [stepS] at hst
  | t n =>
    have hxn : x = .tmp n := by
      cases x with
      | tmp n' => simp only [src, Option.some.injEq, Src.t.injEq] at hs; subst hs; rfl
      | const c => simp only [src] at hs; cases hc : ofConst c <;> rw [hc] at hs <;> cases hs
      | func f => simp [src] at hs
      | global g => simp [src] at hs
    subst hxn
    simp only [stepS] at hst
    obtain ⟨Im0, _, _, hE0⟩ := hF.ents
    cases hx : get n env with
    | none => rw [hx] at hst; cases hst
    | some y =>
      rw [hx] at hst
      simp only [Option.bind_some] at hst
      obtain ⟨u, hun, hent⟩ := hE0.ent n y hx
      have fin : ∀ (ad : Addr) (y' : V) (m : Nat) (z : V), tm a n = some (.pointer (some ad)) → y'.names = some m → m ≠ d → get m env = some z → z.names = none → env' = put' d y' env →
          (∀ Im : Nat → Prop, Ents P Im w base env (tm a) → Ent P Im w base env (tm a) (.pointer (some (ad.add f.offset))) y') → ∃ u, (execOp a.eval oper).run P w = .ok (.value u) w ∧ FI P nt keep S base w0 env' (a.put (some d) u) w := by
        intro ad y' m z hn hy' hmd hz hzn he hent
        subst he
        refine ⟨_, ?_, hF.put_names hk hd hy' hmd hz hzn hent⟩
        simp only [execOp, hop, eval_tmp hn, Sem.run_bind, fieldAt_run hu hf hpos ad, Result.andThen_ok, Sem.run_pure]
      cases y with
      | bx cs =>
        simp only at hst
        split at hst
        · rename_i hc
          cases hst
          obtain ⟨⟨g, vs, ty, rfl, _⟩, _⟩ := hent
          exact fin ⟨g, 0, none⟩ _ n _ hun rfl hc.1 hx rfl rfl fun Im hE => ⟨_, hun, rfl⟩
        · cases hst
      | al m =>
        simp only at hst
        cases hz : get m env with
        | none => rw [hz] at hst; cases hst
        | some z =>
          rw [hz] at hst
          simp only [Option.bind_some] at hst
          cases z <;> first | (cases hst; done) | skip
          rename_i cs
          simp only at hst
          split at hst
          · rename_i hc
            cases hst
            have hm : tm a m = some u := hent
            obtain ⟨u', hu', hez⟩ := hE0.ent m _ hz
            have := hm.symm.trans hu'; cases this
            obtain ⟨⟨g, vs, ty, rfl, _⟩, _⟩ := hez
            exact fin ⟨g, 0, none⟩ _ m _ hun rfl hc.1 hz rfl rfl fun Im hE => ⟨_, hm, rfl⟩
          · cases hst
      | pe m i' a' sz =>
        simp only at hst
        split at hst
        · rename_i hc
          cases hst
          obtain ⟨ad, l, c, k, h1, rfl, h3⟩ := hent
          obtain ⟨z, hz, hzn⟩ := hE0.closed n _ m hx rfl
          refine fin _ _ m z hun rfl hc.1 hz hzn rfl fun Im hE => ⟨ad, l, c, k, h1, ?_, h3⟩
          rw [add_add, Nat.add_assoc]
        · cases hst
      | pb m a' sz =>
        simp only at hst
        split at hst
        · rename_i hc
          cases hst
          obtain ⟨ad, h1, rfl⟩ := hent
          obtain ⟨z, hz, hzn⟩ := hE0.closed n _ m hx rfl
          refine fin _ _ m z hun rfl hc.1 hz hzn rfl fun Im hE => ⟨ad, h1, ?_⟩
          rw [add_add]
        · cases hst
      | r cs =>
        simp only at hst
        cases hsb : sub cs f.offset (P.cellsOf f.type) with
        | none => rw [hsb] at hst; cases hst
        | some r =>
          rw [hsb] at hst
          cases hst
          refine hF.put_run hk hd (Below.refl _ _) fun Im h1 h2 hE => ?_
          obtain ⟨u', hu', he⟩ := hE.ent n _ hx
          obtain ⟨v, hv, hrun⟩ := fa_run hu hf hpos u' cs r he hsb
          exact ⟨v, by simp only [execOp, hop, eval_tmp hu', Sem.run_bind, hrun w, Result.andThen_ok, Sem.run_pure], rfl, Im, fun _ h => h, fun b h => ⟨.inl h, (h2 b h).2⟩, hv⟩
      | _ => cases hst

/-- A closure. -/
theorem step_mkf (hF : FI P nt keep S base w0 env a w) {d : Nat} (hk : d ∈ keep) (hd : d < nt) {fn : Fn} {fs cs : Array Operand} {ss : List Src} {oper : Oper} (hop : oper.op = .makeFunc fn fs cs)
    (hs : srcs (fs.toList ++ cs.toList) = some ss) (hst : stepS o env (.mkf d fn fs.size ss) = some env') : ∃ u, (execOp a.eval oper).run P w = .ok (.value u) w ∧ FI P nt keep S base w0 env' (a.put (some d) u) w := by
  simp only [stepS] at hst
  cases hl : lookSs env ss with
  | none => rw [hl] at hst; cases hst
  | some vs =>
    rw [hl] at hst
    cases hst
    refine (hF.freeze ss).put_run hk hd (Below.refl _ _) fun Im h1 h2 hE => ?_
    have hr := srcs_loose hE hs (loose_freeze ss env).2 (by rw [lookSs_freeze]; exact hl)
    rw [List.map_append] at hr
    have hfl : (fs.toList.map a.eval).length = fs.size := by simp
    have r1 := hr.take fs.size
    have r2 := hr.drop fs.size
    rw [List.take_left' hfl] at r1
    rw [List.drop_left' hfl] at r2
    refine ⟨.func fn (fs.map a.eval) (cs.map a.eval), by simp [execOp, hop, Instr.makeFunc], rfl, Im, fun _ h => h, fun b h => ⟨.inl h, (h2 b h).2⟩, ?_⟩
    refine .f fn _ _ _ _ (by simpa using r1.1) (by simpa using r2.1) (fun j u x hu hx => r1.2 j u x ?_ hx) (fun j u x hu hx => r2.2 j u x ?_ hx)
    · rw [← Array.getElem?_toList, Array.toList_map] at hu; exact hu
    · rw [← Array.getElem?_toList, Array.toList_map] at hu; exact hu
end
end Go.VM
