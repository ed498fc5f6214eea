/-
  Steps: quiet operations, addresses, struct values, pieces of slices, closures. No program is named here.
-/
import Derived.Test.YtdlpbedneamebaaGreatDoorVmG
set_option linter.unusedSectionVars false
namespace Go.VM
open Go.RowKit
variable [Glob]

section
variable {P : Program} {nt : Nat} {keep : List Nat} {S : Nat → Prop} {base : Nat} {w0 : World} {env env' : Env} {a : Act} {w : World} {o : Orc}

theorem FI.put_run (hF : FI P nt keep S base w0 env a w) {d : Nat} (hk : d ∈ keep) (hd : d < nt) {x : V} {s : Sem Next} {w1 : World} (hb : Below w.heap.size w w1)
    (h : ∀ Im : Nat → Prop, (∀ b, S b → Im b) → (∀ b, Im b → (S b ∨ base ≤ b) ∧ b < w.heap.size) → Ents P Im w base env (tm a) → ∃ u, s.run P w = .ok (.value u) w1 ∧ x.smp = true ∧ ∃ Im1 : Nat → Prop, (∀ b, Im b → Im1 b) ∧ (∀ b, Im1 b → (Im b ∨ w.heap.size ≤ b) ∧ b < w1.heap.size) ∧ Rep Im1 w1 u x) :
    ∃ u, s.run P w = .ok (.value u) w1 ∧ FI P nt keep S base w0 (put' d x env) (a.put (some d) u) w1 := by
  obtain ⟨Im0, h1, h2, hE0⟩ := hF.ents
  obtain ⟨u, hu, hsmp, Im1, _, _, hr⟩ := h Im0 h1 h2 hE0
  refine ⟨u, hu, hF.put_rep hk hd hb hsmp (rep_kind hr) fun Im h3 h4 hE => ?_⟩
  obtain ⟨u', hu', _, Im1', h5, h6, hr'⟩ := h Im h3 h4 hE
  have := hu.symm.trans hu'
  simp only [Result.ok.injEq, Next.value.injEq, and_true] at this
  subst this
  exact ⟨Im1', h5, h6, hr'⟩

theorem smp_of {u : Value} {v : V} (h : Rep S w u v) (hv : ∀ ys, v ≠ .t ys) : v.smp = true := by
  rcases (flat_smp h).2.2 with h | ⟨ys, rfl⟩
  · exact h
  · exact absurd rfl (hv ys)

theorem lookS_ptr {Im : Nat → Prop} (hE : Ents P Im w base env (tm a)) {x : Operand} {s : Src} (hs : src x = some s) {cs : List V} (hv : lookS env s = some (.r cs)) :
    ∃ (ad : Addr) (vs : List Value), a.eval x = .pointer (some ad) ∧ (∀ x ∈ cs, x.cell = true) ∧ Reps Im w vs cs ∧ ∀ (j : Nat) u, vs[j]? = some u → w.cell? (ad.add j) = some u := by
  cases x with
  | tmp n =>
    simp only [src, Option.some.injEq] at hs
    subst hs
    obtain ⟨ad, vs, h1, h⟩ := look_ptr hE hv
    exact ⟨ad, vs, eval_tmp h1, h⟩
  | const c =>
    simp only [src] at hs
    cases hc : ofConst c with
    | none => rw [hc] at hs; cases hs
    | some c' =>
      rw [hc] at hs
      cases hs
      simp only [lookS, Option.some.injEq] at hv
      rw [(ofConst_kind hc).2.2] at hv
      subst hv
      exfalso
      unfold ofConst at hc
      split at hc
      · rename_i cs'; cases h : ofCells cs'.toList <;> rw [h] at hc <;> cases hc
      · unfold ofCell at hc
        split at hc <;> cases hc
  | func f =>
    simp only [src, Option.some.injEq] at hs
    subst hs
    simp [lookS, frz] at hv
  | global g =>
    simp only [src] at hs
    cases hc : globV g with
    | none => rw [hc] at hs; cases hs
    | some c' =>
      rw [hc] at hs
      cases hs
      simp only [lookS, Option.some.injEq] at hv
      obtain ⟨cs', rfl⟩ := globV_kind hc
      cases hv
      obtain ⟨ad, vs, h1, _, h2, h3, h4⟩ := (hE.glob.val hc).ptr
      exact ⟨ad, vs, h1, h2, h3, h4⟩

theorem step_qf (hF : FI P nt keep S base w0 env a w) {d : Nat} (hk : d ∈ keep) (hd : d < nt) {op : Op} {p : XOp} {xs : List Operand} {ss : List Src} (hq : qop P op = some (p, xs)) (hp : p.plain = true) (hs : srcs xs = some ss) {oper : Oper} (hop : oper.op = op)
    {vs : List V} (hl : lookSs env ss = some vs) {r : V} (hv : opQ o p vs = some r) (hr : ∀ ys, r ≠ .t ys) : ∃ u, (execOp a.eval oper).run P w = .ok (.value u) w ∧ FI P nt keep S base w0 (put' d r (freeze env ss)) (a.put (some d) u) w := by
  refine (hF.freeze ss).put_run hk hd (Below.refl _ _) fun Im h1 h2 hE => ?_
  obtain ⟨u, hu, hrun⟩ := qop_plain hq hp a.eval oper hop vs r (srcs_loose hE hs (loose_freeze ss env).2 (by rw [lookSs_freeze]; exact hl)) hv
  exact ⟨u, hrun w fun _ _ => rfl, smp_of hu hr, Im, fun _ h => h, fun b h => ⟨.inl h, (h2 b h).2⟩, hu⟩

theorem step_fld (hF : FI P nt keep S base w0 env a w) {d : Nat} (hk : d ∈ keep) (hd : d < nt) {op : Op} {off n : Nat} {ag : Bool} {xs : List Operand} {ss : List Src} (hq : qop P op = some (.fld off n ag, xs)) (hp : (XOp.fld off n ag).plain = true) (hs : srcs xs = some ss) {oper : Oper} (hop : oper.op = op)
    {vs : List V} (hl : lookSs env ss = some vs) {r : V} (hv : opQ o (.fld off n ag) vs = some r) : ∃ u, (execOp a.eval oper).run P w = .ok (.value u) w ∧ FI P nt keep S base w0 (put' d r env) (a.put (some d) u) w := by
  match vs, hv with
  | [.a cs], hv =>
    match ss, hl with
    | [s], hl =>
      have hls : lookS env s = some (.a cs) := by
        simp only [lookSs, Option.bind_eq_some_iff, Option.some.injEq, List.cons.injEq] at hl
        obtain ⟨v, h1, _, rfl, rfl, _⟩ := hl
        exact h1
      have hfr : VM.freeze env [s] = env := by
        show (match owner env s with | some n => VM.freeze1 n env | none => env) = env
        cases s with
        | c v => rfl
        | t m =>
          have hlm : look env m = some (.a cs) := hls
          unfold look at hlm
          cases hx : get m env with
          | none => rw [hx] at hlm; cases hlm
          | some x =>
            rw [hx] at hlm
            cases x <;> first | (simp [rd, frz] at hlm; done) | (simp [owner, hx, V.names, V.isOwn]; done) | skip
            · rename_i j
              simp only at hlm
              cases hy : get j env with
              | none => rw [hy] at hlm; cases hlm
              | some y =>
                rw [hy] at hlm
                cases y <;> first | (simp [rd, frz] at hlm; done) | (simp [owner, hx, V.names, VM.freeze1, hy, V.isOwn]; done) | skip
            all_goals (
              simp only at hlm
              split at hlm
              · first | (simp only [Option.bind_eq_some_iff, Option.map_eq_some_iff] at hlm; obtain ⟨_, _, _, _, h⟩ := hlm; cases h; done) | (simp only [Option.map_eq_some_iff] at hlm; obtain ⟨_, _, h⟩ := hlm; cases h; done)
              · cases hlm)
      have hc : ∀ x ∈ cs, x.cell = true := by
        obtain ⟨u, hru⟩ : ∃ u, Rep (All w) w u (.a cs) := by
          obtain ⟨s', hs', ss', hss', he⟩ : ∃ x, ∃ hx : srcs [x] = some [s], True ∧ True := by
            match xs, hs with
            | [x], hs => exact ⟨x, hs, trivial, trivial⟩
            | [], hs => simp [srcs] at hs
            | _ :: _ :: _, hs => simp [srcs, Option.bind_eq_some_iff] at hs
          exact ⟨_, (srcs_val hF hs' (show lookSs env [s] = some [.a cs] by simp [lookSs, hls])).head⟩
        obtain ⟨_, _, h, _⟩ := Rep.agg hru
        exact h
      have := step_qf hF hk hd hq hp hs hop (vs := [.a cs]) hl hv fun ys e => by
        subst e
        simp only [opQ, Option.bind_eq_some_iff] at hv
        obtain ⟨q, hq', hv⟩ := hv
        split at hv
        · cases hv
        · obtain ⟨_, hsub⟩ := sub_some hq'
          have hm := List.mem_of_getElem? hv
          rw [hsub] at hm
          exact absurd (hc _ (List.mem_of_mem_drop (List.mem_of_mem_take hm))) (by simp [V.cell])
      rwa [hfr] at this
    | [], hl => simp [lookSs] at hl
    | _ :: _ :: _, hl => simp [lookSs, Option.bind_eq_some_iff] at hl
theorem step_q (hF : FI P nt keep S base w0 env a w) {d : Nat} (hk : d ∈ keep) (hd : d < nt) {op : Op} {p : XOp} {xs : List Operand} {ss : List Src} (hq : qop P op = some (p, xs)) (hp : p.plain = true) (hs : srcs xs = some ss) {oper : Oper} (hop : oper.op = op)
    (hst : stepS o env (.q d p ss) = some env') : ∃ u, (execOp a.eval oper).run P w = .ok (.value u) w ∧ FI P nt keep S base w0 env' (a.put (some d) u) w := by
  simp only [stepS] at hst
  cases hl : lookSs env ss with
  | none => rw [hl] at hst; cases hst
  | some vs =>
    rw [hl] at hst
    simp only [Option.bind_some] at hst
    cases hv : opQ o p vs with
    | none => rw [hv] at hst; cases hst
    | some r =>
      rw [hv] at hst
      simp only [Option.bind_some] at hst
      split at hst
      · rename_i hfl
        cases hst
        by_cases hf1 : r.flat1 = true
        · obtain ⟨u, hu, hrun⟩ := qop_plain hq hp a.eval oper hop vs r (srcs_val hF hs hl) hv
          exact ⟨u, hrun w fun _ _ => rfl, hF.put_flat hk hd (Below.refl _ _) hu hf1⟩
        · have hld : p.loads = true := by simpa [hf1] using hfl
          cases p <;> first | (simp [XOp.loads] at hld; done) | skip
          · rename_i off n ag
            exact step_fld hF hk hd hq hp hs hop hl hv
          rename_i n ag
          obtain ⟨t, x, rfl, rfl, hok, rfl, rfl⟩ := qop_ld_inv hq
          obtain ⟨cs, rfl, hcl, hval⟩ := inv_ld hv
          simp only [srcs, Option.bind_eq_some_iff, Option.some.injEq] at hs
          obtain ⟨s, hsx, _, rfl, rfl⟩ := hs
          simp only [lookSs, Option.bind_eq_some_iff, Option.some.injEq, List.cons.injEq] at hl
          obtain ⟨v, hls, _, rfl, rfl, _⟩ := hl
          refine hF.put_run hk hd (Below.refl _ _) fun Im h1 h2 hE => ?_
          obtain ⟨ad, us, hev, hc, hr, hcell⟩ := lookS_ptr hE hsx hls
          obtain ⟨u, hru, hrun⟩ := load_at hok hc hr hcell hcl hval
          refine ⟨u, by simp only [execOp, hop, hev, Sem.run_bind, hrun, Result.andThen_ok, Sem.run_pure], smp_of hru fun ys e => ?_, Im, fun _ h => h, fun b h => ⟨.inl h, (h2 b h).2⟩, hru⟩
          subst e
          split at hval
          · cases hval
          · exact absurd (hc _ (List.mem_of_getElem? hval)) (by simp [V.cell])
      · cases hst

theorem fieldAt_run {t : TypeId} {fs : Array Field} {i : Nat} {f : Field} (hu : P.underlying t = some (.struct fs)) (hf : fs[i]? = some f) (hpos : 0 < P.cellsOf f.type) (ad : Addr) :
    (Instr.fieldAt t (.pointer (some ad)) i).run P w = .ok (.pointer (some (ad.add f.offset))) w := by
  obtain ⟨i0, hi0⟩ : ∃ i0, P.info? f.type = some i0 := by
    unfold Program.cellsOf at hpos
    cases h : P.info? f.type with
    | none => rw [h] at hpos; simp at hpos
    | some i0 => exact ⟨i0, rfl⟩
  have hne : P.cellsOf f.type ≠ 0 := by omega
  simp [Instr.fieldAt, run_underlying hu, hf, Instr.sureAddr, fieldPlace, run_sizeOf w hi0, hne]

theorem indexAt_run {t e : TypeId} (hu : P.underlying t = some (.slice e)) (he : (P.underlying e).isSome = true) (ad : Addr) (l c : Nat) (k : IntKind) (n : Int) (h0 : 0 ≤ n) (hn : n.toNat < l) :
    (Instr.indexAt t (.slice (some ad) l c) (.int k n)).run P w = .ok (.pointer (some (ad.add (n.toNat * P.cellsOf e)))) w := by
  obtain ⟨d, hd⟩ := Option.isSome_iff_exists.1 he
  have : n < (l : Int) := by omega
  simp [Instr.indexAt, asIntOf, run_underlying hu, h0, this, sizeOf_run hd]

theorem step_ix (hF : FI P nt keep S base w0 env a w) {d : Nat} (hk : d ∈ keep) (hd : d < nt) {t e : TypeId} {x i : Operand} {s j : Src} {oper : Oper} (hop : oper.op = .indexAddr t x i) (hu : P.underlying t = some (.slice e)) (he : (P.underlying e).isSome = true)
    (hs : src x = some s) (hj : src i = some j) (hst : stepS o env (.ix d (P.cellsOf e) s j) = some env') : ∃ u, (execOp a.eval oper).run P w = .ok (.value u) w ∧ FI P nt keep S base w0 env' (a.put (some d) u) w := by
  simp only [stepS] at hst
  cases hlj : lookS env j with
  | none => rw [hlj] at hst; cases hst
  | some jv =>
    rw [hlj] at hst
    simp only [Option.bind_some] at hst
    cases jv <;> first | (cases hst; done) | skip
    rename_i kk m
    simp only at hst
    split at hst
    · rename_i h0
      have hiv := src_val hF hj hlj
      have heval : a.eval i = .int kk m := by generalize a.eval i = q at hiv; cases hiv; rfl
      cases hls : lookS env s with
      | none => rw [hls] at hst; cases hst
      | some sv =>
        rw [hls] at hst
        simp only [Option.bind_some] at hst
        cases sv <;> first | (cases hst; done) | skip
        rename_i es
        simp only at hst
        cases hel : es[m.toNat]? with
        | none => rw [hel] at hst; cases hst
        | some el =>
          rw [hel] at hst
          simp only [Option.bind_some] at hst
          have hlt : m.toNat < es.length := (List.getElem?_eq_some_iff.1 hel).1
          have hne : es ≠ [] := fun e => by subst e; simp at hel
          split at hst
          · rename_i hkl
            cases how : owner env s with
            | none =>
              rw [how] at hst
              simp only [Option.some.injEq] at hst
              subst hst
              refine hF.put_run hk hd (Below.refl _ _) fun Im h1 h2 hE => ?_
              have hrs := src_loose hE hs (fun m x hm => by rw [how] at hm; cases hm) hls
              obtain ⟨u, hru, hrun⟩ := ix_run hu he _ (.int kk m) es kk m el hrs (.i _ _) h0 hel hkl
              exact ⟨u, by simp only [execOp, hop, heval, Sem.run_bind, hrun w, Result.andThen_ok, Sem.run_pure], rfl, Im, fun _ h => h, fun b h => ⟨.inl h, (h2 b h).2⟩, hru⟩
            | some m' =>
              rw [how] at hst
              simp only at hst
              split at hst
              · cases hst
              · rename_i hmd
                cases hst
                obtain ⟨Im0, _, _, hE0⟩ := hF.ents
                cases s with
                | c v => simp [owner] at how
                | t n =>
                  have hxn : x = .tmp n := by
                    cases x with
                    | tmp n' => simp only [src, Option.some.injEq, Src.t.injEq] at hs; subst hs; rfl
                    | const c => simp only [src] at hs; cases hc : ofConst c <;> rw [hc] at hs <;> cases hs
                    | func f => simp [src] at hs
                    | global g => simp only [src] at hs; cases hc : globV g <;> rw [hc] at hs <;> cases hs
                  subst hxn
                  -- the owner's slot holds the slice
                  have key : ∃ (y : V) (u : Value), get m' env = some y ∧ tm a m' = some u ∧ tm a n = some u ∧ frz y = .l es ∧ y.names = none ∧ y.smp = true := by
                    simp only [owner] at how
                    cases hx : get n env with
                    | none => rw [hx] at how; cases how
                    | some y =>
                      rw [hx] at how
                      simp only at how
                      have hlk : look env n = some (.l es) := hls
                      unfold look at hlk
                      rw [hx] at hlk
                      obtain ⟨u, hun, hent⟩ := hE0.ent n y hx
                      cases y with
                      | al q =>
                        simp only [V.names, Option.some.injEq] at how
                        subst how
                        simp only at hlk
                        cases hz : get q env with
                        | none => rw [hz] at hlk; cases hlk
                        | some z =>
                          rw [hz] at hlk
                          obtain ⟨h1, h2⟩ := rd_some (show rd z = some (.l es) from hlk)
                          obtain ⟨z', hz', hzn⟩ := hE0.closed n _ q hx rfl
                          rw [hz] at hz'; cases hz'
                          exact ⟨z, u, rfl, hent, hun, h2.symm, hzn, h1⟩
                      | ow e' es' =>
                        simp only [V.names, V.isOwn, if_true, Option.some.injEq] at how
                        subst how
                        obtain ⟨h1, h2⟩ := rd_some (show rd (V.ow e' es') = some (.l es) from hlk)
                        exact ⟨_, u, hx, hun, hun, h2.symm, rfl, h1⟩
                      | bx cs => simp [rd, frz] at hlk
                      | pe q i' off sz =>
                        simp only at hlk
                        cases hz : (get q env).bind rd with
                        | none => rw [hz] at hlk; cases hlk
                        | some z =>
                          rw [hz] at hlk
                          cases z <;> first | (cases hlk; done) | skip
                          simp only [Option.bind_eq_some_iff, Option.map_eq_some_iff] at hlk
                          obtain ⟨_, _, _, _, h⟩ := hlk
                          cases h
                      | pb q off sz =>
                        simp only at hlk
                        cases hz : (get q env).bind rd with
                        | none => rw [hz] at hlk; cases hlk
                        | some z =>
                          rw [hz] at hlk
                          cases z <;> first | (cases hlk; done) | skip
                          simp only [Option.map_eq_some_iff] at hlk
                          obtain ⟨_, _, h⟩ := hlk
                          cases h
                      | mp ks vs => simp [rd, frz] at hlk
                      | _ => simp [V.names, V.isOwn] at how
                  obtain ⟨y, u, hy, hum, hun, hfy, hyn, hys⟩ := key
                  obtain ⟨u', hu', hey⟩ := hE0.ent m' y hy
                  have := hum.symm.trans hu'; cases this
                  rw [Ent.res1 hys] at hey
                  obtain ⟨ad, c, k, vs, rfl, hk', hc, hr, hcell⟩ := slot_row hey hfy hne
                  have hkk : k = P.cellsOf e := by rw [← hkl]; exact (hk' el (List.mem_of_getElem? hel)).symm
                  subst hkk
                  refine ⟨.pointer (some (ad.add (m.toNat * P.cellsOf e))), ?_, ?_⟩
                  · simp only [execOp, hop, heval, eval_tmp hun, Sem.run_bind, indexAt_run hu he ad es.length c kk m h0 hlt, Result.andThen_ok, Sem.run_pure]
                  · refine hF.put_names hk hd (m := m') rfl hmd hy hyn fun Im hE => ?_
                    refine ⟨ad, es.length, c, P.cellsOf e, hum, rfl, fun z es' hz hfz => ?_⟩
                    rw [hy] at hz; cases hz
                    rw [hfy] at hfz; cases hfz
                    exact hk'
          · cases hst
    · cases hst

theorem step_fa (hF : FI P nt keep S base w0 env a w) {d : Nat} (hk : d ∈ keep) (hd : d < nt) {t : TypeId} {fs : Array Field} {i : Nat} {f : Field} {x : Operand} {s : Src} {oper : Oper} (hop : oper.op = .fieldAddr t x i) (hu : P.underlying t = some (.struct fs)) (hf : fs[i]? = some f) (hpos : 0 < P.cellsOf f.type)
    (hs : src x = some s) (hst : stepS o env (.fa d f.offset (P.cellsOf f.type) s) = some env') : ∃ u, (execOp a.eval oper).run P w = .ok (.value u) w ∧ FI P nt keep S base w0 env' (a.put (some d) u) w := by
  cases s with
  | c v => simp [stepS] at hst
  | t n =>
    have hxn : x = .tmp n := by
      cases x with
      | tmp n' => simp only [src, Option.some.injEq, Src.t.injEq] at hs; subst hs; rfl
      | const c => simp only [src] at hs; cases hc : ofConst c <;> rw [hc] at hs <;> cases hs
      | func f => simp [src] at hs
      | global g => simp only [src] at hs; cases hc : globV g <;> rw [hc] at hs <;> cases hs
    subst hxn
    simp only [stepS] at hst
    obtain ⟨Im0, _, _, hE0⟩ := hF.ents
    cases hx : get n env with
    | none => rw [hx] at hst; cases hst
    | some y =>
      rw [hx] at hst
      simp only [Option.bind_some] at hst
      obtain ⟨u, hun, hent⟩ := hE0.ent n y hx
      have fin : ∀ (ad : Addr) (y' : V) (m : Nat) (z : V), tm a n = some (.pointer (some ad)) → y'.names = some m → m ≠ d → get m env = some z → z.names = none → env' = put' d y' env →
          (∀ Im : Nat → Prop, Ents P Im w base env (tm a) → Ent P Im w base env (tm a) (.pointer (some (ad.add f.offset))) y') → ∃ u, (execOp a.eval oper).run P w = .ok (.value u) w ∧ FI P nt keep S base w0 env' (a.put (some d) u) w := by
        intro ad y' m z hn hy' hmd hz hzn he hent
        subst he
        refine ⟨_, ?_, hF.put_names hk hd hy' hmd hz hzn hent⟩
        simp only [execOp, hop, eval_tmp hn, Sem.run_bind, fieldAt_run hu hf hpos ad, Result.andThen_ok, Sem.run_pure]
      cases y with
      | bx cs =>
        simp only at hst
        split at hst
        · rename_i hc
          cases hst
          obtain ⟨⟨g, vs, ty, rfl, _⟩, _⟩ := hent
          exact fin ⟨g, 0, none⟩ _ n _ hun rfl hc.1 hx rfl rfl fun Im hE => ⟨_, hun, rfl⟩
        · cases hst
      | al m =>
        simp only at hst
        cases hz : get m env with
        | none => rw [hz] at hst; cases hst
        | some z =>
          rw [hz] at hst
          simp only [Option.bind_some] at hst
          cases z <;> first | (cases hst; done) | skip
          rename_i cs
          simp only at hst
          split at hst
          · rename_i hc
            cases hst
            have hm : tm a m = some u := hent
            obtain ⟨u', hu', hez⟩ := hE0.ent m _ hz
            have := hm.symm.trans hu'; cases this
            obtain ⟨⟨g, vs, ty, rfl, _⟩, _⟩ := hez
            exact fin ⟨g, 0, none⟩ _ m _ hun rfl hc.1 hz rfl rfl fun Im hE => ⟨_, hm, rfl⟩
          · cases hst
      | pe m i' a' sz =>
        simp only at hst
        split at hst
        · rename_i hc
          cases hst
          obtain ⟨ad, l, c, k, h1, rfl, h3⟩ := hent
          obtain ⟨z, hz, hzn⟩ := hE0.closed n _ m hx rfl
          refine fin _ _ m z hun rfl hc.1 hz hzn rfl fun Im hE => ⟨ad, l, c, k, h1, ?_, h3⟩
          rw [add_add, Nat.add_assoc]
        · cases hst
      | pb m a' sz =>
        simp only at hst
        split at hst
        · rename_i hc
          cases hst
          obtain ⟨ad, h1, rfl⟩ := hent
          obtain ⟨z, hz, hzn⟩ := hE0.closed n _ m hx rfl
          refine fin _ _ m z hun rfl hc.1 hz hzn rfl fun Im hE => ⟨ad, h1, ?_⟩
          rw [add_add]
        · cases hst
      | r cs =>
        simp only at hst
        cases hsb : sub cs f.offset (P.cellsOf f.type) with
        | none => rw [hsb] at hst; cases hst
        | some r =>
          rw [hsb] at hst
          cases hst
          refine hF.put_run hk hd (Below.refl _ _) fun Im h1 h2 hE => ?_
          obtain ⟨u', hu', he⟩ := hE.ent n _ hx
          obtain ⟨v, hv, hrun⟩ := fa_run hu hf hpos u' cs r he hsb
          exact ⟨v, by simp only [execOp, hop, eval_tmp hu', Sem.run_bind, hrun w, Result.andThen_ok, Sem.run_pure], rfl, Im, fun _ h => h, fun b h => ⟨.inl h, (h2 b h).2⟩, hv⟩
      | _ => cases hst

theorem step_mkf (hF : FI P nt keep S base w0 env a w) {d : Nat} (hk : d ∈ keep) (hd : d < nt) {fn : Fn} {fs cs : Array Operand} {ss : List Src} {oper : Oper} (hop : oper.op = .makeFunc fn fs cs)
    (hs : srcs (fs.toList ++ cs.toList) = some ss) (hst : stepS o env (.mkf d fn fs.size ss) = some env') : ∃ u, (execOp a.eval oper).run P w = .ok (.value u) w ∧ FI P nt keep S base w0 env' (a.put (some d) u) w := by
  simp only [stepS] at hst
  cases hl : lookSs env ss with
  | none => rw [hl] at hst; cases hst
  | some vs =>
    rw [hl] at hst
    cases hst
    refine (hF.freeze ss).put_run hk hd (Below.refl _ _) fun Im h1 h2 hE => ?_
    have hr := srcs_loose hE hs (loose_freeze ss env).2 (by rw [lookSs_freeze]; exact hl)
    rw [List.map_append] at hr
    have hfl : (fs.toList.map a.eval).length = fs.size := by simp
    have r1 := hr.take fs.size
    have r2 := hr.drop fs.size
    rw [List.take_left' hfl] at r1
    rw [List.drop_left' hfl] at r2
    refine ⟨.func fn (fs.map a.eval) (cs.map a.eval), by simp [execOp, hop, Instr.makeFunc], rfl, Im, fun _ h => h, fun b h => ⟨.inl h, (h2 b h).2⟩, ?_⟩
    refine .f fn _ _ _ _ (by simpa using r1.1) (by simpa using r2.1) (fun j u x hu hx => r1.2 j u x ?_ hx) (fun j u x hu hx => r2.2 j u x ?_ hx)
    · rw [← Array.getElem?_toList, Array.toList_map] at hu; exact hu
    · rw [← Array.getElem?_toList, Array.toList_map] at hu; exact hu
end
end Go.VM
/-
  Steps: slice literals, variables, parts of a call's results. No program is named here.
-/
namespace Go.VM
open Go.RowKit
variable [Glob]

section
variable {P : Program} {nt : Nat} {keep : List Nat} {S : Nat → Prop} {base : Nat} {w0 : World} {env env' : Env} {a : Act} {w : World} {o : Orc}

theorem step_bsl (hF : FI P nt keep S base w0 env a w) {d : Nat} (hk : d ∈ keep) (hd : d < nt) {t e : TypeId} {k n : Nat} {ps : Array (Nat × Operand)} {ss : List Src} {oper : Oper} (hop : oper.op = .buildSlice t n ps)
    (hkc : elemCells P t = some k) (hel : elemTy P t = some e) (hc : n * k ≤ 16777216 ∧ 0 < k ∧ ps.toList.map (·.1) = List.range n ∧ (zeroCells P (P.elem t)).isSome = true) (hs : srcs (ps.toList.map (·.2)) = some ss)
    (hst : stepS o env (.bsl d e k ss) = some env') : ∃ u w1, (execOp a.eval oper).run P w = .ok (.value u) w1 ∧ FI P nt keep S base w0 env' (a.put (some d) u) w1 := by
  simp only [stepS] at hst
  cases hl : lookSs env ss with
  | none => rw [hl] at hst; cases hst
  | some vs =>
    rw [hl] at hst
    simp only [Option.bind_some] at hst
    split at hst
    · rename_i hall
      cases hst
      have hall1 : ∀ x ∈ vs, x.cells.length = k := fun x hx => by
        have := List.all_eq_true.1 hall x hx
        simp only [Bool.and_eq_true, beq_iff_eq] at this
        exact this.1
      have hall2 : ∀ x ∈ flatc vs, x.cell = true := fun x hx => by
        obtain ⟨e, he, hx⟩ := List.mem_flatMap.1 hx
        have := List.all_eq_true.1 hall e he
        simp only [Bool.and_eq_true, beq_iff_eq] at this
        exact List.all_eq_true.1 this.2 x hx
      have hu : P.underlying t = some (.slice e) := by
        unfold elemTy at hel
        split at hel
        · rename_i e' hu; cases hel; exact hu
        · cases hel
      have hk' : (P.info? e).map (·.size) = some k := by simpa [elemCells, hu] using hkc
      have hke : P.cellsOf e = k := by
        unfold Program.cellsOf
        cases h : P.info? e with
        | none => rw [h] at hk'; cases hk'
        | some i => rw [h] at hk'; simpa using hk'
      have hele : P.elem t = e := by simp [Program.elem, hu]
      rw [hele] at hc
      have hF' := hF.freeze ss
      obtain ⟨Im0, _, _, hE0⟩ := hF'.ents
      have hr0 := srcs_loose hE0 hs (loose_freeze ss env).2 (by rw [lookSs_freeze]; exact hl)
      obtain ⟨cells, hcr0, hcl, hn, hrun⟩ := bsl_run (w := w) hu hk' hc.1 hc.2.2.2 ps hc.2.2.1 a.eval vs (by simpa [List.map_map, Function.comp_def] using hr0) hall1
      have hx : (execOp a.eval oper).run P w = .ok (.value (.slice (some ⟨w.heap.size, 0, none⟩) n n)) (w.alloc (.cells cells.toArray e)) := by
        have := hrun w
        simp only [execOp, hop, Sem.run_bind, this, Result.andThen_ok, Sem.run_pure]
      have hbw : Below w.heap.size w (w.alloc (.cells cells.toArray e)) := (Below.refl _ _).alloc (Nat.le_refl _) _
      refine ⟨_, _, hx, hF'.put_own hk hd hbw rfl (fun g hg => by simp only [blkOf, Option.some.injEq] at hg; omega) fun Im h1 h2 hE => ?_⟩
      have hr := srcs_loose hE hs (loose_freeze ss env).2 (by rw [lookSs_freeze]; exact hl)
      obtain ⟨cells', hcr, _, _, hrun'⟩ := bsl_run (w := w) hu hk' hc.1 hc.2.2.2 ps hc.2.2.1 a.eval vs (by simpa [List.map_map, Function.comp_def] using hr) hall1
      have he := (hrun w).symm.trans (hrun' w)
      have hce : cells = cells' := by
        simp only [Result.ok.injEq] at he
        have h1 := heap_alloc_new w (.cells cells.toArray e)
        rw [he.2] at h1
        have h2 := heap_alloc_new w (.cells cells'.toArray e)
        rw [h2] at h1
        simp only [Option.some.injEq, Obj.cells.injEq, and_true] at h1
        simpa using h1.symm
      subst hce
      refine ⟨Im, fun _ h => h, fun b h => ⟨.inl h, Nat.lt_of_lt_of_le (h2 b h).2 hbw.size⟩, ⟨cells, ?_, fun x hx => (hall1 x hx).trans hke.symm, hall2, hcr.move (fun _ h => h) fun p hp => World.cell?_alloc_lt w _ p (h2 _ hp).2⟩, fun g hg hI => ?_⟩
      · rw [hn]
        have hmul : n ≤ n * k := Nat.le_mul_of_pos_right n hc.2.1
        have := World.ownsRow_lit (base := base) (e := e) (size := P.cellsOf e) w cells.toArray n hF.bsz (by simp only [maxLen]; omega) (by simp [hcl, hke])
        simpa using this
      · simp only [blkOf, Option.some.injEq] at hg
        have := (h2 g hI).2
        omega
    · cases hst

theorem alloc_box {Im : Nat → Prop} (hIm : ∀ b, Im b → b < w.heap.size) (hbs : base ≤ w.heap.size) {vs : List Value} {cs : List V} (hr : Reps Im w vs cs) (hc : ∀ x ∈ cs, x.cell = true) (ty : TypeId) : Res1 P Im (w.alloc (.cells vs.toArray ty)) base (.pointer (some ⟨w.heap.size, 0, none⟩)) (.bx cs) := by
  refine ⟨⟨w.heap.size, vs, ty, rfl, hbs, heap_alloc_new w _, hc, hr.move (fun _ h => h) fun p hp => World.cell?_alloc_lt w _ p (hIm _ hp)⟩, fun g hg hI => ?_⟩
  simp only [blkOf, Option.some.injEq] at hg
  have := hIm g hI
  omega

theorem step_box (hF : FI P nt keep S base w0 env a w) {d : Nat} (hk : d ∈ keep) (hd : d < nt) {t : TypeId} {x : Operand} {s : Src} {oper : Oper} (hop : oper.op = .box t x) (hs : src x = some s)
    (hst : stepS o env (.box d s) = some env') : ∃ u w1, (execOp a.eval oper).run P w = .ok (.value u) w1 ∧ FI P nt keep S base w0 env' (a.put (some d) u) w1 := by
  simp only [stepS] at hst
  cases hl : lookS env s with
  | none => rw [hl] at hst; cases hst
  | some v =>
    rw [hl] at hst
    simp only [Option.bind_some] at hst
    split at hst
    · rename_i hall
      cases hst
      have hF' := hF.freeze [s]
      have hbw : Below w.heap.size w (w.alloc (.cells (a.eval x).cells t)) := (Below.refl _ _).alloc (Nat.le_refl _) _
      refine ⟨_, _, (by simp [execOp, hop, Instr.box, newVar, run_askRow] : (execOp a.eval oper).run P w = .ok (.value (.pointer (some ⟨w.heap.size, 0, none⟩))) (w.alloc (.cells (a.eval x).cells t))), hF'.put_own hk hd hbw rfl (fun g hg => by simp only [blkOf, Option.some.injEq] at hg; omega) fun Im h1 h2 hE => ?_⟩
      have hl' : lookS (freeze env [s]) s = some v := by
        have h := lookSs_freeze [s] env [s]
        simp only [lookSs, hl, Option.bind_some] at h
        cases h' : lookS (freeze env [s]) s with
        | none => rw [h'] at h; cases h
        | some v' => rw [h'] at h; simp only [Option.bind_some, Option.some.injEq, List.cons.injEq, and_true] at h; rw [h]
      have hr := src_loose hE hs ((loose_freeze [s] env).2 s (List.mem_cons_self ..)) hl'
      have := alloc_box (P := P) (base := base) (fun b h => (h2 b h).2) hF.bsz hr.cells (fun x hx => List.all_eq_true.1 hall x hx) t
      exact ⟨Im, fun _ h => h, fun b h => ⟨.inl h, Nat.lt_of_lt_of_le (h2 b h).2 hbw.size⟩, by simpa using this⟩
    · cases hst

theorem step_alo (hF : FI P nt keep S base w0 env a w) {d : Nat} (hk : d ∈ keep) (hd : d < nt) {t : TypeId} {z : List V} {oper : Oper} (hop : oper.op = .alloc t) (hz : zeroCells P t = some z)
    (hst : stepS o env (.alo d z) = some env') : ∃ u w1, (execOp a.eval oper).run P w = .ok (.value u) w1 ∧ FI P nt keep S base w0 env' (a.put (some d) u) w1 := by
  simp only [stepS, Option.some.injEq] at hst
  subst hst
  unfold zeroCells at hz
  cases hi : P.info? t with
  | none => rw [hi] at hz; cases hz
  | some it =>
    rw [hi] at hz
    simp only [Option.bind_some] at hz
    cases hzz : it.zero with
    | none => rw [hzz] at hz; cases hz
    | some zv =>
      rw [hzz] at hz
      simp only [Option.bind_some] at hz
      have hbw : Below w.heap.size w (w.alloc (.cells zv.cells t)) := (Below.refl _ _).alloc (Nat.le_refl _) _
      have hzr : (zeroValue t).run P w = .ok zv w := by simp [zeroValue, typeInfo, hi, hzz]
      refine ⟨_, _, (by simp [execOp, hop, Instr.alloc, hzr, newVar, run_askRow] : (execOp a.eval oper).run P w = .ok (.value (.pointer (some ⟨w.heap.size, 0, none⟩))) (w.alloc (.cells zv.cells t))), hF.put_own hk hd hbw rfl (fun g hg => by simp only [blkOf, Option.some.injEq] at hg; omega) fun Im h1 h2 hE => ?_⟩
      obtain ⟨r1, c1⟩ := ofCells_rep (S := Im) (w := w) hz
      have := alloc_box (P := P) (base := base) (fun b h => (h2 b h).2) hF.bsz r1 c1 t
      exact ⟨Im, fun _ h => h, fun b h => ⟨.inl h, Nat.lt_of_lt_of_le (h2 b h).2 hbw.size⟩, by simpa using this⟩

theorem Res1.keepW {Im : Nat → Prop} {w' : World} {v : Value} {x : V} (h : Res1 P Im w base v x) (hI : ∀ b, Im b → w'.heap[b]? = w.heap[b]?) (hN : x.isOwn = true → ∀ g, blkOf v = some g → w'.heap[g]? = w.heap[g]?) : Res1 P Im w' base v x := by
  cases x with
  | ow e es =>
    obtain ⟨⟨vs, ⟨hl, hv⟩, hk, h1, hr⟩, hn⟩ := h
    refine ⟨⟨vs, ⟨hl, ?_⟩, hk, h1, hr.move (fun _ h => h) fun p hp => World.cell?_of_block (hI _ hp)⟩, hn⟩
    rcases hv with h | ⟨g, cap, cur, rfl, h2, hh, h3⟩
    · exact .inl h
    · exact .inr ⟨g, cap, cur, rfl, h2, (hN rfl g rfl).trans hh, h3⟩
  | bx cs =>
    obtain ⟨⟨g, vs, ty, rfl, h2, hh, h3, hr⟩, hn⟩ := h
    exact ⟨⟨g, vs, ty, rfl, h2, (hN rfl g rfl).trans hh, h3, hr.move (fun _ h => h) fun p hp => World.cell?_of_block (hI _ hp)⟩, hn⟩
  | mp ks vs =>
    obtain ⟨⟨g, es, c, rfl, h2, hh, h3⟩, hn⟩ := h
    exact ⟨⟨g, es, c, rfl, h2, (hN rfl g rfl).trans hh, h3⟩, hn⟩
  | al n => exact h
  | pe a b c d => exact h
  | pb a b c => exact h
  | t ys => exact h
  | ud => exact h
  | _ => exact Rep.keep h fun p hp => World.cell?_of_block (hI _ hp)

theorem Ents.upd {Im : Nat → Prop} {T : Tm} {w' : World} (h : Ents P Im w base env T) {n : Nat} {x x' : V} {u : Value} (hx : get n env = some x) (hu : T n = some u) (hn' : x'.names = none)
    (hI : ∀ b, Im b → w'.heap[b]? = w.heap[b]?) (hO : ∀ m c g, m ≠ n → Owns env T m c g → w'.heap[g]? = w.heap[g]?)
    (hpe : ∀ es', frz x' = .l es' → ∃ es, frz x = .l es ∧ ∀ k, (∀ e ∈ es, e.cells.length = k) → ∀ e ∈ es', e.cells.length = k)
    (hent : Ent P Im w' base (VM.put n x' env) T u x') (hown : ∀ c g, Owns (VM.put n x' env) T n c g → Owns env T n c g) : Ents P Im w' base (VM.put n x' env) T := by
  have hget : ∀ m, get m (VM.put n x' env) = if m = n then some x' else get m env := fun m => get_put n m x' env
  have howns : ∀ m c g, Owns (VM.put n x' env) T m c g → Owns env T m c g := by
    intro m c g ho
    by_cases hm : m = n
    · subst hm; exact hown c g ho
    · cases c with
      | none => obtain ⟨y, v, hy, h1⟩ := ho; rw [hget, if_neg hm] at hy; exact ⟨y, v, hy, h1⟩
      | some j => obtain ⟨ys, us, y, v, hy, h1⟩ := ho; rw [hget, if_neg hm] at hy; exact ⟨ys, us, y, v, hy, h1⟩
  refine ⟨fun m y hy => ?_, fun m y k hy hk => ?_, fun m c m' c' g h1 h2 => h.apart m c m' c' g (howns _ _ _ h1) (howns _ _ _ h2), h.glob.move (fun _ h => h) fun p hp => World.cell?_of_block (hI _ hp)⟩
  · rw [hget] at hy
    by_cases hm : m = n
    · rw [if_pos hm] at hy
      cases hy
      exact ⟨u, by rw [hm]; exact hu, hent⟩
    · rw [if_neg hm] at hy
      obtain ⟨v, hv, he⟩ := h.ent m y hy
      refine ⟨v, hv, ?_⟩
      by_cases hsm : y.smp = true
      · rw [Ent.res1 hsm] at he ⊢
        exact he.keepW hI fun ho g hg => hO m none g hm ⟨_, v, hy, ho, hv, hg⟩
      cases y with
      | pe k i off sz =>
        obtain ⟨ad, l, c, kk, h1, h2, h3⟩ := he
        refine ⟨ad, l, c, kk, h1, h2, fun z es hz hfz => ?_⟩
        rw [hget] at hz
        by_cases hkn : k = n
        · rw [if_pos hkn] at hz
          cases hz
          obtain ⟨es0, hf0, hall⟩ := hpe es hfz
          exact hall kk (h3 x es0 (by rw [hkn]; exact hx) hf0)
        · rw [if_neg hkn] at hz; exact h3 z es hz hfz
      | al k => exact he
      | pb k off sz => exact he
      | ud => exact he
      | t ys =>
        obtain ⟨us, hus, hl, hh⟩ := he
        refine ⟨us, hus, hl, fun j v' y hj hy' => ?_⟩
        rcases hh j v' y hj hy' with h1 | h1
        · exact .inl h1
        · exact .inr (h1.keepW hI fun ho g hg => hO m (some j) g hm ⟨ys, us, y, v', hy, by rw [hv, hus], hy', ho, hj, hg⟩)
      | _ => exact absurd rfl hsm
  · rw [hget] at hy
    by_cases hm : m = n
    · rw [if_pos hm] at hy; cases hy; rw [hn'] at hk; cases hk
    · rw [if_neg hm] at hy
      obtain ⟨z, hz, hzn⟩ := h.closed m y k hy hk
      by_cases hkn : k = n
      · exact ⟨x', by rw [hget, if_pos hkn], hn'⟩
      · exact ⟨z, by rw [hget, if_neg hkn]; exact hz, hzn⟩

theorem step_ext (hF : FI P nt keep S base w0 env a w) {d : Nat} (hk : d ∈ keep) (hd : d < nt) {n i : Nat} {oper : Oper} (hop : oper.op = .extract (.tmp n) i)
    (hst : stepS o env (.ext d i n) = some env') : ∃ u, (execOp a.eval oper).run P w = .ok (.value u) w ∧ FI P nt keep S base w0 env' (a.put (some d) u) w := by
  simp only [stepS] at hst
  cases hx : get n env with
  | none => rw [hx] at hst; cases hst
  | some x =>
    rw [hx] at hst
    simp only [Option.bind_some] at hst
    cases x <;> first | (cases hst; done) | skip
    rename_i ys
    simp only at hst
    cases hy : ys[i]? with
    | none => rw [hy] at hst; cases hst
    | some y =>
      rw [hy] at hst
      simp only [Option.bind_some] at hst
      by_cases hown : y.isOwn = true
      case neg =>
        rw [if_neg hown] at hst
        simp only [Option.some.injEq] at hst
        subst hst
        have hF0 := hF
        obtain ⟨Im, hI1, hI2, hE⟩ := hF.ents
        obtain ⟨u0, hu0, us, rfl, hul, hus⟩ := hE.ent n _ hx
        have hi : i < us.length := by rw [hul]; exact (List.getElem?_eq_some_iff.1 hy).1
        have hui : us[i]? = some us[i] := List.getElem?_eq_getElem hi
        refine ⟨us[i], ?_, ?_⟩
        · simp only [execOp, hop, eval_tmp hu0, Instr.extract]
          simp [hi]
        · rcases hus i _ _ hui hy with rfl | h
          · exact hF0.put_ud hk hd
          · have hsm : y.smp = true := by cases y <;> first | exact h.elim | rfl
            refine hF0.put_rep hk hd (Below.refl _ _) hsm (by simpa using hown) fun Im' _ hI2' hE' => ⟨Im', fun _ h => h, fun b h => ⟨.inl h, (hI2' b h).2⟩, ?_⟩
            obtain ⟨u1, hu1, us', hus', hul', hh⟩ := hE'.ent n _ hx
            have h1 := hu0.symm.trans hu1
            simp only [Option.some.injEq] at h1
            rw [← h1] at hus'
            simp only [Value.tuple.injEq] at hus'
            have h2 : us = us' := by simpa using congrArg Array.toList hus'
            subst h2
            rcases hh i _ _ hui hy with rfl | h3
            · exact h.elim
            · cases y <;> first | exact h3 | (exact h.elim) | (simp [V.isOwn] at hown; done)
      rw [if_pos hown] at hst
      simp only [Option.some.injEq] at hst
      subst hst
      obtain ⟨Im, hI1, hI2, hE⟩ := hF.ents
      obtain ⟨u0, hu0, us, rfl, hul, hus⟩ := hE.ent n _ hx
      have hda : d < a.tmps.size := by rw [hF.size]; exact hd
      have hi : i < us.length := by rw [hul]; exact (List.getElem?_eq_some_iff.1 hy).1
      have hui : us[i]? = some us[i] := List.getElem?_eq_getElem hi
      have hiy : i < ys.length := (List.getElem?_eq_some_iff.1 hy).1
      have hset : ∀ j, (ys.set i .ud)[j]? = if j = i then some V.ud else ys[j]? := fun j => by
        rw [List.getElem?_set]
        by_cases h : i = j
        · subst h; simp [hiy]
        · rw [if_neg h, if_neg (fun e => h e.symm)]
      have hownset : ∀ c g, Owns (put n (.t (ys.set i .ud)) env) (tm a) n c g → ∃ j, c = some j ∧ j ≠ i ∧ Owns env (tm a) n (some j) g := by
        intro c g ho
        cases c with
        | none =>
          obtain ⟨z, _, hz, h1, _⟩ := ho
          rw [get_put, if_pos rfl] at hz
          cases hz; simp [V.isOwn] at h1
        | some j =>
          obtain ⟨ys', us', z, v, hz, h1, h2, h3, h4⟩ := ho
          rw [get_put, if_pos rfl] at hz
          cases hz
          rw [hset] at h2
          by_cases hj : j = i
          · rw [if_pos hj] at h2; cases h2; simp [V.isOwn] at h3
          · rw [if_neg hj] at h2
            exact ⟨j, rfl, hj, ys, us', z, v, hx, h1, h2, h3, h4⟩
      have hE1 : Ents P Im w base (put n (.t (ys.set i .ud)) env) (tm a) := by
        refine hE.upd (x' := .t (ys.set i .ud)) hx hu0 rfl (fun _ _ => rfl) (fun _ _ _ _ _ => rfl) (fun es' h => by simp [frz] at h) ⟨us, rfl, by simpa using hul, fun j v z hv hz => ?_⟩ (fun c g ho => by
          obtain ⟨j, rfl, _, h⟩ := hownset c g ho
          exact h)
        rw [hset] at hz
        by_cases hj : j = i
        · rw [if_pos hj] at hz; cases hz; exact .inl rfl
        · rw [if_neg hj] at hz; exact hus j v z hv hz
      have hs1 : Srt (put n (.t (ys.set i .ud)) env) := hF.srt.put _ _
      have hyk : y.names = none ∧ (∀ zs, y ≠ .t zs) ∧ (y = .ud ∨ (y.smp = true ∧ Res1 P Im w base us[i] y)) := by
        rcases hus i _ _ hui hy with rfl | h
        · exact ⟨rfl, by simp, .inl rfl⟩
        · cases y <;> first | exact h.elim | exact ⟨rfl, by simp, .inr ⟨rfl, h⟩⟩
      have hown0 : ∀ c g, Owns (put' d y (put n (.t (ys.set i .ud)) env)) (tm (a.put (some d) us[i])) d c g → c = none ∧ Owns env (tm a) n (some i) g := by
        intro c g ho
        cases c with
        | none =>
          obtain ⟨z, v, hz, h1, hT, hg⟩ := ho
          rw [get_put' hs1, if_pos rfl] at hz
          cases hz
          rw [tm_put hda, if_pos rfl] at hT
          cases hT
          exact ⟨rfl, ys, us, y, us[i], hx, hu0, hy, h1, hui, hg⟩
        | some j =>
          obtain ⟨zs, _, _, _, hz, _⟩ := ho
          rw [get_put' hs1, if_pos rfl] at hz
          cases hz
          exact absurd rfl (hyk.2.1 zs)
      have hE2 : Ents P Im w base (put' d y (put n (.t (ys.set i .ud)) env)) (tm (a.put (some d) us[i])) := by
        refine hE1.put hs1 d y us[i] ((tm_put hda d).trans (if_pos rfl)) (fun m z hm _ => (tm_put hda m).trans (if_neg hm)) ?_ (fun m hm => by rw [hyk.1] at hm; cases hm) (fun c g ho n' c' hn' ho' => ?_) (fun c c' g h h' => (hown0 c g h).1.trans (hown0 c' g h').1.symm)
        · rcases hyk.2.2 with rfl | ⟨h1, h2⟩
          · trivial
          · rw [Ent.res1 h1]; exact h2
        · have h1 := (hown0 c g ho).2
          by_cases hnn : n' = n
          · subst hnn
            obtain ⟨j, rfl, hj, h2⟩ := hownset c' g ho'
            exact hj (by have := (hE.apart _ _ _ _ _ h2 h1).2; simpa using this)
          · have h2 : Owns env (tm a) n' c' g := by
              cases c' with
              | none => obtain ⟨z, v, hz, h⟩ := ho'; rw [get_put, if_neg hnn] at hz; exact ⟨z, v, hz, h⟩
              | some j => obtain ⟨zs, vs, z, v, hz, h⟩ := ho'; rw [get_put, if_neg hnn] at hz; exact ⟨zs, vs, z, v, hz, h⟩
            exact hnn (hE.apart _ _ _ _ _ h2 h1).1
      refine ⟨us[i], ?_, hs1.put' _ _, by simpa [Act.put] using hF.size, hF.defers, hF.below, hF.kept, hF.bsz, fun m z hz => ?_, Im, hI1, hI2, hE2⟩
      · simp only [execOp, hop, eval_tmp hu0, Instr.extract]
        simp [hi]
      · by_cases hm : m = d
        · rw [hm]; exact ⟨hk, hd⟩
        · rw [get_put' hs1, if_neg hm] at hz
          have hz' : ∃ z', get m (put n (.t (ys.set i .ud)) env) = some z' := by
            cases hq : get d (put n (.t (ys.set i .ud)) env) with
            | none => rw [hq] at hz; exact ⟨_, hz⟩
            | some q =>
              rw [hq] at hz
              simp only at hz
              cases hq' : get m (put n (.t (ys.set i .ud)) env) with
              | none => rw [hq'] at hz; cases hz
              | some z' => exact ⟨z', rfl⟩
          obtain ⟨z', hz'⟩ := hz'
          rw [get_put] at hz'
          by_cases hmn : m = n
          · rw [hmn]; exact hF.keys n _ hx
          · rw [if_neg hmn] at hz'; exact hF.keys m z' hz'
theorem Ents.spent {Im : Nat → Prop} {env : Env} {T : Tm} (h : Ents P Im w base env T) {m : Nat} {x : V} (hx : get m env = some x) : Ents P Im w base (VM.put m .ud env) T ∧ ∀ n c g, Owns (VM.put m .ud env) T n c g → n ≠ m ∧ Owns env T n c g := by
  obtain ⟨u, hu, _⟩ := h.ent m x hx
  have key : ∀ n c g, Owns (VM.put m .ud env) T n c g → n ≠ m ∧ Owns env T n c g := by
    intro n c g ho
    cases c with
    | none =>
      obtain ⟨y, v, hy, h1, h2⟩ := ho
      rw [get_put] at hy
      by_cases hn : n = m
      · rw [if_pos hn] at hy; cases hy; simp [V.isOwn] at h1
      · rw [if_neg hn] at hy; exact ⟨hn, y, v, hy, h1, h2⟩
    | some j =>
      obtain ⟨ys, us, y, v, hy, h1⟩ := ho
      rw [get_put] at hy
      by_cases hn : n = m
      · rw [if_pos hn] at hy; cases hy
      · rw [if_neg hn] at hy; exact ⟨hn, ys, us, y, v, hy, h1⟩
  exact ⟨h.upd (x' := .ud) hx hu rfl (fun _ _ => rfl) (fun _ _ _ _ _ => rfl) (fun es' h => by simp [frz] at h) trivial fun c g ho => absurd rfl (key m c g ho).1, key⟩

theorem step_mv' (hF : FI P nt keep S base w0 env a w) {d : Nat} (hk : d ∈ keep) (hd : d < nt) {ty : TypeId} {x : Operand} {s : Src} (hs : srcT P ty x = some s) (hst : stepS o env (.mv d s) = some env') : FI P nt keep S base w0 env' (a.put (some d) (a.eval x)) w := by
  by_cases hnt : ∃ n ys, s = .t n ∧ get n env = some (.t ys)
  · obtain ⟨n, ys, rfl, hx⟩ := hnt
    have hxt : x = .tmp n := by
      cases x with
      | tmp n' => simp only [srcT, Option.some.injEq, Src.t.injEq] at hs; subst hs; rfl
      | const c => simp only [srcT] at hs; cases hc : constT P ty c <;> rw [hc] at hs <;> cases hs
      | func f => simp [srcT] at hs
      | global g => simp [srcT] at hs
    subst hxt
    simp only [stepS, hx, Option.bind_some] at hst
    split at hst
    · cases hst
    · rename_i hdn
      cases hst
      obtain ⟨Im, hI1, hI2, hE⟩ := hF.ents
      obtain ⟨u, hu, us, rfl, hul, hus⟩ := hE.ent n _ hx
      have hda : d < a.tmps.size := by rw [hF.size]; exact hd
      obtain ⟨hE1, ho1⟩ := hE.spent hx
      have hs1 : Srt (put n .ud env) := hF.srt.put _ _
      rw [eval_tmp hu]
      have hown0 : ∀ c g, Owns (put' d (.t ys) (put n .ud env)) (tm (a.put (some d) (.tuple us.toArray))) d c g → Owns env (tm a) n c g := by
        intro c g ho
        cases c with
        | none =>
          obtain ⟨z, v, hz, h1, _⟩ := ho
          rw [get_put' hs1, if_pos rfl] at hz
          cases hz; simp [V.isOwn] at h1
        | some j =>
          obtain ⟨zs, vs, z, v, hz, hT, h1, h2, h3, h4⟩ := ho
          rw [get_put' hs1, if_pos rfl] at hz
          cases hz
          rw [tm_put hda, if_pos rfl] at hT
          have : us = vs := by simpa using hT
          subst this
          exact ⟨ys, us, z, v, hx, hu, h1, h2, h3, h4⟩
      refine ⟨hs1.put' _ _, by simpa [Act.put] using hF.size, hF.defers, hF.below, hF.kept, hF.bsz, fun m z hz => ?_, Im, hI1, hI2, ?_⟩
      · by_cases hm : m = d
        · rw [hm]; exact ⟨hk, hd⟩
        · rw [get_put' hs1, if_neg hm] at hz
          have hz' : ∃ z', get m (put n .ud env) = some z' := by
            cases hq : get d (put n .ud env) with
            | none => rw [hq] at hz; exact ⟨_, hz⟩
            | some q =>
              rw [hq] at hz
              simp only at hz
              cases hq' : get m (put n .ud env) with
              | none => rw [hq'] at hz; cases hz
              | some z' => exact ⟨z', rfl⟩
          obtain ⟨z', hz'⟩ := hz'
          rw [get_put] at hz'
          by_cases hmn : m = n
          · rw [hmn]; exact hF.keys n _ hx
          · rw [if_neg hmn] at hz'; exact hF.keys m z' hz'
      · refine hE1.put hs1 d _ (.tuple us.toArray) ((tm_put hda d).trans (if_pos rfl)) (fun m z hm _ => (tm_put hda m).trans (if_neg hm)) ⟨us, rfl, hul, hus⟩ (fun m hm => by cases hm) (fun c g ho n' c' hn' ho' => ?_) (fun c c' g h h' => (hE.apart _ _ _ _ _ (hown0 c g h) (hown0 c' g h')).2)
        have h1 := hown0 c g ho
        have h2 := ho1 n' c' g ho'
        exact h2.1 (hE.apart _ _ _ _ _ h2.2 h1).1
  · exact step_mv hF hk hd hs (fun n ys e1 e2 => hnt ⟨n, ys, e1, e2⟩) hst
end
end Go.VM
/-
  Steps: stores into memory of the call's own, and appends to it. No program is named here.
-/
namespace Go.VM
open Go.RowKit
variable [Glob]

section
variable {P : Program} {nt : Nat} {keep : List Nat} {S : Nat → Prop} {base : Nat} {w0 : World} {env env' : Env} {a : Act} {w : World} {o : Orc}

theorem add_zero (g j : Nat) : (⟨g, 0, none⟩ : Addr).add j = ⟨g, j, none⟩ := by unfold Addr.add; split <;> simp_all

theorem FI.store (hF : FI P nt keep S base w0 env a w) {m : Nat} {x x' : V} {u : Value} (hx : get m env = some x) (hown : x.isOwn = true) (hu : tm a m = some u) {g : Nat} (hg : blkOf u = some g) {cur : Array Value} {ty : TypeId} (hh : w.heap[g]? = some (.cells cur ty (0, 0))) (hown' : x'.isOwn = true)
    (hpe : ∀ es', frz x' = .l es' → ∃ es, frz x = .l es ∧ ∀ k, (∀ e ∈ es, e.cells.length = k) → ∀ e ∈ es', e.cells.length = k) {new : Array Value}
    (h : ∀ Im : Nat → Prop, (∀ b, S b → Im b) → (∀ b, Im b → (S b ∨ base ≤ b) ∧ b < w.heap.size) → ¬ Im g → base ≤ g → (∀ p : Addr, Im p.block → (w.setRow g new).cell? p = w.cell? p) → Ents P Im w base env (tm a) → Res1 P Im (w.setRow g new) base u x') :
    FI P nt keep S base w0 (VM.put m x' env) a (w.setRow g new) := by
  obtain ⟨Im, hI1, hI2, hE⟩ := hF.ents
  have hlt := Owns.lt hE (n := m) (c := none) ⟨x, u, hx, hown, hu, hg⟩
  have hIm : ∀ b, Im b → (w.setRow g new).heap[b]? = w.heap[b]? := fun b hb => setRow_other w g b new fun e => hlt.2.2 (e ▸ hb)
  have hres := h Im hI1 hI2 hlt.2.2 hlt.2.1 (fun p hp => World.cell?_of_block (hIm _ hp)) hE
  have hsz : (w.setRow g new).heap.size = w.heap.size := by simp [World.setRow]
  have hsmp := (own_kind hown').1
  refine ⟨hF.srt.put m x', hF.size, hF.defers, hF.below.trans ⟨rfl, rfl, rfl, by rw [hsz]; exact Nat.le_refl _, fun k hk => setRow_other w g k new (by omega)⟩, fun b hb => (hIm b (hI1 b hb)).trans (hF.kept b hb), by rw [hsz]; exact hF.bsz, fun n y hy => ?_, Im, hI1, fun b hb => by rw [hsz]; exact hI2 b hb, ?_⟩
  · rw [get_put] at hy
    by_cases hn : n = m
    · rw [hn]; exact hF.keys m x hx
    · rw [if_neg hn] at hy; exact hF.keys n y hy
  · refine hE.upd hx hu (own_kind hown').2.1 hIm (fun n c g' hn ho => setRow_other w g g' new fun e => hn ?_) hpe (by rw [Ent.res1 hsmp]; exact hres) fun c g' ho => ?_
    · subst e
      exact (hE.apart n c m none g' ho ⟨x, u, hx, hown, hu, hg⟩).1
    · cases c with
      | none =>
        obtain ⟨z, v, _, _, hT, hg'⟩ := ho
        have := hu.symm.trans hT; cases this
        exact ⟨x, u, hx, hown, hu, hg'⟩
      | some j =>
        obtain ⟨zs, _, _, _, hz, _⟩ := ho
        rw [get_put, if_pos rfl] at hz
        cases hz
        exact absurd rfl ((own_kind hown').2.2 zs)

theorem storeAt_run {t : TypeId} {u : Value} {ad : Addr} {g j : Nat} (had : ad = ⟨g, j, none⟩) {cur : Array Value} {ty : TypeId} (hh : w.heap[g]? = some (.cells cur ty (0, 0))) (hs : u.cells.size = P.cellsOf t) (hpos : 0 < P.cellsOf t) (hfit : j + u.cells.size ≤ cur.size) (h1 : ∀ v ∈ u.cells.toList, v.oneCell' = true) :
    (Instr.storeAt t (.pointer (some ad)) u).run P w = .ok () (w.setRow g (cur.toList.take j ++ u.cells.toList ++ cur.toList.drop (j + u.cells.toList.length)).toArray) := by
  subst had
  obtain ⟨i0, hi0⟩ : ∃ i0, P.info? t = some i0 := by
    unfold Program.cellsOf at hpos
    cases h : P.info? t with
    | none => rw [h] at hpos; simp at hpos
    | some i0 => exact ⟨i0, rfl⟩
  have := run_storeCells_at P g j ty u.cells.toList 0 cur w hh (by simpa using hfit) h1
  simp only [Nat.add_zero] at this
  simp only [Instr.storeAt, Instr.sureAddr, Sem.run_bind, Sem.run_pure, Result.andThen_ok, storeVar, run_sizeOf w hi0, hs, ne_eq, not_true_eq_false, if_false, this]

theorem Reps.oneCell {Im : Nat → Prop} {vs : List Value} {xs : List V} (h : Reps Im w vs xs) (hc : ∀ x ∈ xs, x.cell = true) : ∀ v ∈ vs, v.oneCell' = true := by
  intro v hv
  obtain ⟨j, hj, rfl⟩ := List.getElem_of_mem hv
  have hj' : j < xs.length := by rw [← h.1]; exact hj
  exact (h.2 j _ _ (List.getElem?_eq_getElem hj) (List.getElem?_eq_getElem hj')).oneCell (hc _ (List.getElem_mem hj'))

theorem splice3 {α : Type} (l1 l2 l3 xs : List α) (off : Nat) (ho : off + xs.length ≤ l2.length) :
    (l1 ++ (l2 ++ l3)).take (l1.length + off) ++ xs ++ (l1 ++ (l2 ++ l3)).drop (l1.length + off + xs.length) = l1 ++ (l2.take off ++ xs ++ l2.drop (off + xs.length)) ++ l3 := by
  rw [List.take_append, List.take_of_length_le (by omega : l1.length ≤ l1.length + off), show l1.length + off - l1.length = off from by omega, List.take_append, show off - l2.length = 0 from by omega, List.take_zero, List.append_nil,
    List.drop_append, List.drop_eq_nil_of_le (by omega : l1.length ≤ l1.length + off + xs.length), List.nil_append, show l1.length + off + xs.length - l1.length = off + xs.length from by omega, List.drop_append, show off + xs.length - l2.length = 0 from by omega, List.drop_zero]
  simp only [List.append_assoc]
theorem splice_splice {α : Type} (l xs : List α) (A k off : Nat) (hk : A + k ≤ l.length) (ho : off + xs.length ≤ k) :
    l.take (A + off) ++ xs ++ l.drop (A + off + xs.length) = l.take A ++ (((l.drop A).take k).take off ++ xs ++ ((l.drop A).take k).drop (off + xs.length)) ++ l.drop (A + k) := by
  have h1 : (l.take A).length = A := by simp; omega
  have h2 : ((l.drop A).take k).length = k := by simp; omega
  have h3 : l = l.take A ++ ((l.drop A).take k ++ l.drop (A + k)) := by
    rw [← List.drop_drop, List.take_append_drop, List.take_append_drop]
  have := splice3 (l.take A) ((l.drop A).take k) (l.drop (A + k)) xs off (by rw [h2]; exact ho)
  rw [← h3, h1] at this
  exact this
theorem take_splice {α : Type} (L u : List α) (q N : Nat) (h : q + u.length ≤ N) (hN : N ≤ L.length) : (L.take q ++ u ++ L.drop (q + u.length)).take N = (L.take N).take q ++ u ++ (L.take N).drop (q + u.length) := by
  have hl : (L.take q ++ u).length = q + u.length := by simp; omega
  rw [List.take_append, List.take_of_length_le (by rw [hl]; exact h), hl, List.take_take, Nat.min_eq_left (by omega), List.drop_take]

theorem store_box (hF : FI P nt keep S base w0 env a w) {t : TypeId} {x v : Operand} {oper : Oper} (hop : oper.op = .store t x v) (hpos : 0 < P.cellsOf t) {y : V} (hv : ∀ Im : Nat → Prop, Ents P Im w base env (tm a) → Rep Im w (a.eval v) y) (hyl : y.cells.length = P.cellsOf t) (hyc : y.cells.all V.cell = true)
    {m : Nat} {cs : List V} (hx : get m env = some (.bx cs)) {ad : Addr} (hm : tm a m = some (.pointer (some ad))) {off : Nat} (hxe : a.eval x = .pointer (some (ad.add off))) (hfit : off + P.cellsOf t ≤ cs.length) :
    ∃ w1, (execOp a.eval oper).run P w = .ok .skip w1 ∧ FI P nt keep S base w0 (put m (.bx (splice cs off y.cells)) env) a w1 := by
  obtain ⟨Im0, _, hI2, hE0⟩ := hF.ents
  obtain ⟨u, hu, ⟨g, vs, ty, rfl, hb, hh, hc, hr⟩, _⟩ := hE0.ent m _ hx
  have := hm.symm.trans hu
  simp only [Option.some.injEq, Value.pointer.injEq] at this
  subst this
  have hr0 := (hv Im0 hE0).cells
  have hsz : (a.eval v).cells.size = P.cellsOf t := by rw [← hyl, ← hr0.1, Array.length_toList]
  have hyc' : ∀ x ∈ y.cells, x.cell = true := fun x hx => List.all_eq_true.1 hyc x hx
  have hrun := storeAt_run (P := P) (t := t) (u := a.eval v) (add_zero g off) hh hsz hpos (by rw [hsz]; simpa [hr.1] using hfit) (hr0.oneCell hyc')
  have hrun2 : (execOp a.eval oper).run P w = .ok .skip (w.setRow g (vs.take off ++ (a.eval v).cells.toList ++ vs.drop (off + (a.eval v).cells.toList.length)).toArray) := by simp only [execOp, hop, hxe, Sem.run_bind, hrun, Result.andThen_ok, Sem.run_pure]
  refine ⟨_, hrun2, hF.store hx rfl hm rfl hh rfl (fun es' h => by simp [frz] at h) fun Im h1 h2 hg hbg hcell hE => ?_⟩
  obtain ⟨u', hu', ⟨g', vs', ty', he', _, hh', hc', hr'⟩, _⟩ := hE.ent m _ hx
  have := hm.symm.trans hu'; cases this
  simp only [Value.pointer.injEq, Option.some.injEq, Addr.mk.injEq, and_true] at he'
  subst he'
  rw [hh] at hh'
  simp only [Option.some.injEq, Obj.cells.injEq, and_true] at hh'
  obtain ⟨hvs, rfl⟩ := hh'
  have hvs : vs = vs' := by simpa using hvs
  subst hvs
  refine ⟨⟨g, vs.take off ++ (a.eval v).cells.toList ++ vs.drop (off + (a.eval v).cells.toList.length), ty, rfl, hbg, ?_, splice_mem hc' hyc', ?_⟩, fun g' hg' => ?_⟩
  · exact setRow_heap w g _ _ ty _ hh
  · exact (hr'.splice (hv Im hE).cells off).move (fun _ h => h) hcell
  · simp only [blkOf, Option.some.injEq] at hg'
    subst hg'; exact hg

theorem flatc_set {k : Nat} {es : List V} {i : Nat} {e e' : V} (h : ∀ e ∈ es, e.cells.length = k) (he : es[i]? = some e) : flatc (es.set i e') = (flatc es).take (i * k) ++ e'.cells ++ (flatc es).drop (i * k + k) := by
  have hi : i < es.length := (List.getElem?_eq_some_iff.1 he).1
  rw [flatc_take i h, show i * k + k = (i + 1) * k from by rw [Nat.succ_mul], flatc_drop (i + 1) h, List.set_eq_take_append_cons_drop, if_pos hi, flatc_append, flatc_cons, List.append_assoc]

theorem store_row (hF : FI P nt keep S base w0 env a w) {t : TypeId} {x v : Operand} {oper : Oper} (hop : oper.op = .store t x v) {y : V} (hv : ∀ Im : Nat → Prop, Ents P Im w base env (tm a) → Rep Im w (a.eval v) y) (hyl : y.cells.length = P.cellsOf t) (hyc : y.cells.all V.cell = true)
    {m e0 : Nat} {es : List V} (hx : get m env = some (.ow e0 es)) {ad : Addr} {l c k i off : Nat} (hm : tm a m = some (.slice (some ad) l c)) (hxe : a.eval x = .pointer (some (ad.add (i * k + off)))) (hk : ∀ e ∈ es, e.cells.length = k) {e : V} (he : es[i]? = some e) (hpos : 0 < P.cellsOf t) (hfit : off + P.cellsOf t ≤ e.cells.length) :
    ∃ w1, (execOp a.eval oper).run P w = .ok .skip w1 ∧ FI P nt keep S base w0 (put m (.ow e0 (es.set i (newE e off y))) env) a w1 := by
  have hi : i < es.length := (List.getElem?_eq_some_iff.1 he).1
  have hek : e.cells.length = k := hk e (List.mem_of_getElem? he)
  obtain ⟨Im0, _, hI2, hE0⟩ := hF.ents
  obtain ⟨u, hu, ⟨vs, ⟨hvl, hvv⟩, hkk, hc, hr⟩, _⟩ := hE0.ent m _ hx
  have hke : P.cellsOf e0 = k := by rw [← hek]; exact (hkk e (List.mem_of_getElem? he)).symm
  rcases hvv with ⟨_, h0⟩ | ⟨g, cap, cur, rfl, hb, hh, hn, hcm, hcs, ht⟩
  · omega
  have := hm.symm.trans hu
  simp only [Option.some.injEq, Value.slice.injEq] at this
  obtain ⟨rfl, rfl, rfl⟩ := this
  have hr0 := (hv Im0 hE0).cells
  have hsz : (a.eval v).cells.size = P.cellsOf t := by rw [← hyl, ← hr0.1, Array.length_toList]
  have hyc' : ∀ x ∈ y.cells, x.cell = true := fun x hx => List.all_eq_true.1 hyc x hx
  have hik : i * k + k ≤ es.length * k := by rw [← Nat.succ_mul]; exact Nat.mul_le_mul_right _ hi
  have hcap : es.length * k ≤ cur.size := by rw [hcs, hke]; exact Nat.mul_le_mul_right _ hn
  have hrun := storeAt_run (P := P) (t := t) (u := a.eval v) (add_zero g (i * k + off)) hh hsz hpos (by rw [hsz]; omega) (hr0.oneCell hyc')
  have hul : (a.eval v).cells.toList.length = P.cellsOf t := by simpa using hsz
  -- the element's new cells
  have hnew : ∃ nc : List V, (newE e off y).cells = nc ∧ nc = splice e.cells off y.cells := by
    refine ⟨_, rfl, ?_⟩
    cases e with
    | a cs => rfl
    | _ =>
      simp only [V.cells, List.length_cons, List.length_nil] at hfit
      have hoff : off = 0 := by omega
      subst hoff
      have h1 : y.cells.length = 1 := by omega
      show y.cells = _
      rw [splice, List.take_zero, List.nil_append, Nat.zero_add, List.drop_eq_nil_of_le (by rw [h1]; exact Nat.le_refl 1), List.append_nil]
  obtain ⟨nc, hnc, hnc'⟩ := hnew
  have hncl : nc.length = k := by rw [hnc', splice_length (by rw [hyl]; exact hfit), hek]
  generalize newE e off y = e' at hnc ⊢
  have hrun2 : (execOp a.eval oper).run P w = .ok .skip (w.setRow g (cur.toList.take (i * k + off) ++ (a.eval v).cells.toList ++ cur.toList.drop (i * k + off + (a.eval v).cells.toList.length)).toArray) := by simp only [execOp, hop, hxe, Sem.run_bind, hrun, Result.andThen_ok, Sem.run_pure]
  refine ⟨_, hrun2, hF.store hx rfl hm rfl hh rfl (fun es' h => ?_) fun Im h1 h2 hg hbg hcell hE => ?_⟩
  · simp only [frz, V.l.injEq] at h
    subst h
    refine ⟨es, rfl, fun k' hk' e2 he2 => ?_⟩
    have hkk' : k' = k := by rw [← hek]; exact (hk' e (List.mem_of_getElem? he)).symm
    rcases List.mem_or_eq_of_mem_set he2 with h | rfl
    · exact hk' _ h
    · rw [hnc, hncl, hkk']
  obtain ⟨u', hu', ⟨vs', ⟨hvl', hvv'⟩, _, hc', hr'⟩, _⟩ := hE.ent m _ hx
  have := hm.symm.trans hu'; cases this
  rcases hvv' with ⟨h0, _⟩ | ⟨g', cap', cur', he2, _, hh', _, _, _, ht'⟩
  · cases h0
  simp only [Value.slice.injEq, Option.some.injEq, Addr.mk.injEq, and_true, true_and] at he2
  obtain ⟨rfl, rfl⟩ := he2
  rw [hh] at hh'
  simp only [Option.some.injEq, Obj.cells.injEq, and_true] at hh'
  subst hh'
  have hvs : vs' = vs := by rw [← ht, ← ht']
  subst hvs
  rw [hke] at ht hvl
  have hvsl : vs'.length = es.length * k := by rw [hvl]
  have hspl : (cur.toList.take (i * k + off) ++ (a.eval v).cells.toList ++ cur.toList.drop (i * k + off + (a.eval v).cells.toList.length)).take (es.length * k) = vs'.take (i * k) ++ (((vs'.drop (i * k)).take k).take off ++ (a.eval v).cells.toList ++ ((vs'.drop (i * k)).take k).drop (off + (a.eval v).cells.toList.length)) ++ vs'.drop (i * k + k) := by
    rw [← splice_splice vs' (a.eval v).cells.toList (i * k) k off (by omega) (by rw [hul]; omega), ← ht]
    exact take_splice _ _ _ _ (by rw [hul]; omega) (by simpa using hcap)
  have hgs : es.length * P.cellsOf e0 = es.length * k := by rw [hke]
  refine ⟨⟨vs'.take (i * k) ++ (((vs'.drop (i * k)).take k).take off ++ (a.eval v).cells.toList ++ ((vs'.drop (i * k)).take k).drop (off + (a.eval v).cells.toList.length)) ++ vs'.drop (i * k + k), ⟨?_, .inr ⟨g, c, _, by rw [List.length_set], hbg, setRow_heap w g _ _ e0 _ hh, by rw [List.length_set]; exact hn, hcm, ?_, ?_⟩⟩, ?_, ?_, ?_⟩, fun g' hg' => ?_⟩
  · simp only [List.length_append, List.length_take, List.length_drop, hul, List.length_set, hgs, hvsl, Nat.min_def]
    repeat' split
    all_goals omega
  · rw [← hcs]
    simp only [List.size_toArray, List.length_append, List.length_take, List.length_drop, Array.length_toList, hul, Nat.min_def]
    repeat' split
    all_goals omega
  · rw [List.length_set, hgs]; exact hspl
  · intro z hz
    rw [hke]
    rcases List.mem_or_eq_of_mem_set hz with h | rfl
    · exact hk z h
    · rw [hnc, hncl]
  · intro z hz
    obtain ⟨e2, he2, hz2⟩ := List.mem_flatMap.1 hz
    rcases List.mem_or_eq_of_mem_set he2 with h | rfl
    · exact hc' z (List.mem_flatMap.2 ⟨e2, h, hz2⟩)
    · rw [hnc, hnc'] at hz2
      exact splice_mem (fun x hx => hc' x (List.mem_flatMap.2 ⟨e, List.mem_of_getElem? he, hx⟩)) hyc' z hz2
  · have hf := flatc_set (e' := e') hk he
    rw [hf, hnc, hnc']
    have hec : ((flatc es).drop (i * k)).take k = e.cells := flatc_at hk he
    have hmid := ((hr'.drop (i * k)).take k).splice (hv Im hE).cells off
    rw [hec] at hmid
    exact (((hr'.take (i * k)).append hmid).append (hr'.drop (i * k + k))).move (fun _ h => h) hcell
  · simp only [blkOf, Option.some.injEq] at hg'
    subst hg'; exact hg
end
end Go.VM
