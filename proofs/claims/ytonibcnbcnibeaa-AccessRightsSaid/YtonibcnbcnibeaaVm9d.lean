/-
  Steps: assignments that hand memory on; quiet operations. No program is named here.
-/
import Derived.Test.YtonibcnbcnibeaaVm9c
namespace Go.VM
open Go.RowKit

section
variable {P : Program} {nt : Nat} {keep : List Nat} {S : Nat → Prop} {base : Nat} {w0 : World} {env env' : Env} {a : Act} {w : World} {o : Orc}

theorem own_kind {y : V} (h : y.isOwn = true) : y.smp = true ∧ y.names = none ∧ ∀ ys, y ≠ .t ys := by
  cases y <;> simp_all [V.isOwn, V.smp, V.names]

/-- What a slot owns is handed on to another, which it names from now on. -/
theorem FI.hand (hF : FI P nt keep S base w0 env a w) {d : Nat} (hk : d ∈ keep) (hd : d < nt) {m : Nat} {y : V} (hy : get m env = some y) (hown : y.isOwn = true) (hmd : m ≠ d) {u : Value} (hu : tm a m = some u) :
    FI P nt keep S base w0 (hand m d y env) (a.put (some d) u) w := by
  obtain ⟨Im, hI1, hI2, hE⟩ := hF.ents
  have hda : d < a.tmps.size := by rw [hF.size]; exact hd
  obtain ⟨hsmp, hnm, hnt⟩ := own_kind hown
  have hs0 : Srt (purge m env) := hF.srt.filter _
  have hs1 : Srt (del m (purge m env)) := hs0.filter _
  have hg1 : ∀ k, get k (del m (purge m env)) = if k = m then none else get k (purge m env) := fun k => get_del hs0 m k
  have hsub : ∀ k x, get k (del m (purge m env)) = some x → get k env = some x ∧ k ≠ m ∧ x.names ≠ some m := by
    intro k x hx
    rw [hg1] at hx
    split at hx
    · cases hx
    · rename_i hkm
      rw [get_purge hF.srt] at hx
      cases hq : get k env with
      | none => rw [hq] at hx; cases hx
      | some z =>
        rw [hq] at hx
        simp only [Option.bind_some] at hx
        split at hx
        · cases hx
        · cases hx; exact ⟨rfl, hkm, ‹_›⟩
  have hsup : ∀ k x, k ≠ m → get k env = some x → x.names ≠ some m → get k (del m (purge m env)) = some x := by
    intro k x hkm hx hn
    rw [hg1, if_neg hkm, get_purge hF.srt, hx]
    simp only [Option.bind_some]
    rw [if_neg hn]
  have hE1 : Ents P Im w base (del m (purge m env)) (tm a) := hE.sub (fun k x hx => (hsub k x hx).1) fun k x j hx hj => by
    obtain ⟨h1, _, h3⟩ := hsub k x hx
    obtain ⟨z, hz, hzn⟩ := hE.closed k x j h1 hj
    have hjm : j ≠ m := fun e => h3 (by rw [← e]; exact hj)
    exact ⟨z, hsup j z hjm hz (by rw [hzn]; simp), hzn⟩
  obtain ⟨u', hu', he⟩ := hE.ent m y hy
  have := hu.symm.trans hu'; cases this
  have hTd : tm (a.put (some d) u) d = some u := (tm_put hda d).trans (if_pos rfl)
  have hTm : tm (a.put (some d) u) m = some u := ((tm_put hda m).trans (if_neg hmd)).trans hu
  have ho1 : ∀ c g, Owns (put' d y (del m (purge m env))) (tm (a.put (some d) u)) d c g → c = none ∧ blkOf u = some g := by
    intro c g h
    cases c with
    | none =>
      obtain ⟨z, v, hz, _, hT, hg⟩ := h
      rw [hTd] at hT; cases hT
      exact ⟨rfl, hg⟩
    | some j =>
      obtain ⟨ys, _, _, _, hz, _⟩ := h
      rw [get_put' hs1, if_pos rfl] at hz
      cases hz
      exact absurd rfl (hnt ys)
  have hE2 : Ents P Im w base (put' d y (del m (purge m env))) (tm (a.put (some d) u)) := by
    refine hE1.put hs1 d y u hTd (fun k z hk _ => (tm_put hda k).trans (if_neg hk)) ?_ (fun k hk => by rw [hnm] at hk; cases hk) (fun c g h n' c' hn' h' => ?_) (fun c c' g h h' => (ho1 c g h).1.trans (ho1 c' g h').1.symm)
    · rw [Ent.res1 hsmp] at he ⊢; exact he
    · have hg := (ho1 c g h).2
      have h'' : Owns env (tm a) n' c' g ∧ n' ≠ m := by
        cases c' with
        | none => obtain ⟨x, v, hx, h⟩ := h'; exact ⟨⟨x, v, (hsub _ _ hx).1, h⟩, (hsub _ _ hx).2.1⟩
        | some j => obtain ⟨ys, us, x, v, hx, h⟩ := h'; exact ⟨⟨ys, us, x, v, (hsub _ _ hx).1, h⟩, (hsub _ _ hx).2.1⟩
      exact h''.2 (hE.apart _ _ m none g h''.1 ⟨y, u, hy, hown, hu, hg⟩).1
  have hs2 : Srt (put' d y (del m (purge m env))) := hs1.put' _ _
  have hgm : get m (put' d y (del m (purge m env))) = none := by
    rw [get_put' hs1, if_neg hmd, hg1 m, if_pos rfl]
    cases get d (del m (purge m env)) <;> rfl
  have hgd : get d (put' d y (del m (purge m env))) = some y := by rw [get_put' hs1, if_pos rfl]
  have hno : ∀ c g, ¬ Owns (put' m (.al d) (put' d y (del m (purge m env)))) (tm (a.put (some d) u)) m c g := not_owns hs2 rfl (by simp)
  have hE3 : Ents P Im w base (put' m (.al d) (put' d y (del m (purge m env)))) (tm (a.put (some d) u)) :=
    hE2.put hs2 m (.al d) u hTm (fun _ _ _ _ => rfl) hTd (fun k hk => by cases hk; exact ⟨fun e => hmd e.symm, y, hgd, hnm⟩) (fun c g h => absurd h (hno c g)) (fun c c' g h => absurd h (hno c g))
  have hgk : ∀ k, get k (VM.hand m d y env) = get k (put' m (.al d) (put' d y (del m (purge m env)))) := by
    intro k
    unfold VM.hand
    rw [get_put, get_put' hs2, hgm]
    split
    · rfl
    · rename_i hkm
      simp only
      rw [get_put' hs0, get_put' hs1]
      split
      · rfl
      · rw [hg1 d, if_neg (fun e => hmd e.symm), hg1 k, if_neg hkm]
  refine ⟨(hs0.put' d y).put m _, by simpa [Act.put] using hF.size, hF.defers, hF.below, hF.bsz, fun k x hx => ?_, Im, hI1, hI2, hE3.ext hgk⟩
  by_cases hkm : k = m
  · rw [hkm]; exact hF.keys m y hy
  · by_cases hkd : k = d
    · rw [hkd]; exact ⟨hk, hd⟩
    · rw [hgk, get_put' hs2, hgm, if_neg hkm] at hx
      simp only at hx
      rw [get_put' hs1, if_neg hkd] at hx
      cases hq : get d (del m (purge m env)) with
      | none => rw [hq] at hx; exact hF.keys k x (hsub k x hx).1
      | some z =>
        rw [hq] at hx
        simp only at hx
        cases hq' : get k (del m (purge m env)) with
        | none => rw [hq'] at hx; cases hx
        | some z' => exact hF.keys k z' (hsub k z' hq').1

/-- A slot's own entry, read by all. -/
theorem FI.put_same (hF : FI P nt keep S base w0 env a w) {d : Nat} (hk : d ∈ keep) (hd : d < nt) {n : Nat} {y : V} (hy : get n env = some y) (hs : y.smp = true) (ho : y.isOwn = false) {u : Value} (hu : tm a n = some u) : FI P nt keep S base w0 (put' d y env) (a.put (some d) u) w := by
  refine hF.put_rep hk hd (Below.refl _ _) hs ho fun Im _ hI2 hE => ⟨Im, fun _ h => h, fun b h => ⟨.inl h, (hI2 b h).2⟩, ?_⟩
  obtain ⟨u', hu', he⟩ := hE.ent n y hy
  have := hu.symm.trans hu'; cases this
  rw [Ent.res1 hs] at he
  cases y <;> first | exact he | (simp [V.isOwn] at ho; done) | (simp [V.smp] at hs; done)

/-- An assignment. -/
theorem step_as (hF : FI P nt keep S base w0 env a w) {d : Nat} (hk : d ∈ keep) (hd : d < nt) {ty : TypeId} {x : Operand} {s : Src} (hs : srcT P ty x = some s) (hst : stepS o env (.as d s) = some env') : FI P nt keep S base w0 env' (a.put (some d) (a.eval x)) w := by
  cases x with
  | const c =>
    simp only [srcT] at hs
    cases hc : constT P ty c with
    | none => rw [hc] at hs; cases hs
    | some v =>
      rw [hc] at hs; cases hs
      simp only [stepS, Option.some.injEq] at hst
      subst hst
      exact hF.put_const hk hd hc
  | func f =>
    simp only [srcT, Option.some.injEq] at hs
    subst hs
    simp only [stepS, Option.some.injEq] at hst
    subst hst
    exact hF.put_rep hk hd (Below.refl _ _) rfl rfl fun Im _ hI2 _ => ⟨Im, fun _ h => h, fun b h => ⟨.inl h, (hI2 b h).2⟩, .f _ #[] #[] [] [] rfl rfl (by simp) (by simp)⟩
  | global g => simp [srcT] at hs
  | tmp n =>
    simp only [srcT, Option.some.injEq] at hs
    subst hs
    simp only [stepS] at hst
    cases hx : get n env with
    | none => rw [hx] at hst; cases hst
    | some y =>
      rw [hx] at hst
      simp only [Option.bind_some] at hst
      obtain ⟨Im0, _, _, hE0⟩ := hF.ents
      obtain ⟨u, hu, he0⟩ := hE0.ent n y hx
      have hev := eval_tmp hu
      rw [hev]
      have main : ∀ (m : Nat) (z : V), get m env = some z → tm a m = some u → z.smp = true → (if z.isOwn = true then if m = d then none else some (hand m d z env) else some (put' d z env)) = some env' → FI P nt keep S base w0 env' (a.put (some d) u) w := by
        intro m z hz hm hzs h
        split at h
        · split at h
          · cases h
          · cases h; exact hF.hand hk hd hz ‹_› ‹_› hm
        · cases h; exact hF.put_same hk hd hz hzs (by simpa using ‹¬ z.isOwn = true›) hm
      cases y with
      | al m =>
        simp only at hst
        cases hz : get m env with
        | none => rw [hz] at hst; cases hst
        | some z =>
          rw [hz] at hst
          simp only [Option.bind_some] at hst
          have hzn : z.names = none := by
            obtain ⟨z', hz', hn⟩ := hE0.closed n _ m hx rfl
            rw [hz] at hz'; cases hz'; exact hn
          cases z <;> first | exact main m _ hz he0 rfl hst | (simp [V.names] at hzn; done) | (cases hst; done)
      | _ => first | exact main n _ hx hu rfl hst | cases hst

theorem slot_row {Im : Nat → Prop} {u : Value} {y : V} {es : List V} (h : Res1 P Im w base u y) (hy : frz y = .l es) (hne : es ≠ []) :
    ∃ (ad : Addr) (c k : Nat) (vs : List Value), u = .slice (some ad) es.length c ∧ (∀ e ∈ es, e.cells.length = k) ∧ (∀ x ∈ flatc es, x.cell = true) ∧ Reps Im w vs (flatc es) ∧ ∀ (j : Nat) u, vs[j]? = some u → w.cell? (ad.add j) = some u := by
  cases y with
  | l es' =>
    simp only [frz, V.l.injEq] at hy
    subst hy
    obtain ⟨ad, c, k, vs, rfl, hk, h1, hr, _, hd⟩ := Rep.slice h
    rcases hd with rfl | ⟨ad, rfl, _, hu⟩
    · exact absurd rfl hne
    · exact ⟨ad, c, k, vs, rfl, hk, h1, hr, hu⟩
  | ow e es' =>
    simp only [frz, V.l.injEq] at hy
    subst hy
    obtain ⟨⟨vs, ⟨hl, hv⟩, hk, h1, hr⟩, _⟩ := h
    rcases hv with ⟨_, h0⟩ | ⟨g, cap, cur, rfl, hg', hh, hn, _, hsz, ht⟩
    · exact absurd (List.eq_nil_of_length_eq_zero h0) hne
    · refine ⟨⟨g, 0, none⟩, cap, _, vs, rfl, hk, h1, hr, fun j u hj => ?_⟩
      rw [← ht, List.getElem?_take] at hj
      split at hj
      · simp only [World.cell?, add_block, hh]
        unfold Addr.add
        split
        · rename_i hj0; subst hj0; simpa using hj
        · simpa using hj
      · cases hj
  | _ => simp [frz] at hy
theorem slot_box {Im : Nat → Prop} {u : Value} {y : V} {cs : List V} (h : Res1 P Im w base u y) (hy : frz y = .r cs) :
    ∃ (ad : Addr) (vs : List Value), u = .pointer (some ad) ∧ (∀ x ∈ cs, x.cell = true) ∧ Reps Im w vs cs ∧ ∀ (j : Nat) u, vs[j]? = some u → w.cell? (ad.add j) = some u := by
  cases y with
  | r cs' =>
    simp only [frz, V.r.injEq] at hy
    subst hy
    obtain ⟨ad, vs, rfl, _, h1, hr, hu⟩ := Rep.ptr h
    exact ⟨ad, vs, rfl, h1, hr, hu⟩
  | bx cs' =>
    simp only [frz, V.r.injEq] at hy
    subst hy
    obtain ⟨⟨g, vs, ty, rfl, hb, hh, h1, hr⟩, _⟩ := h
    refine ⟨_, vs, rfl, h1, hr, fun j u hj => ?_⟩
    simp only [World.cell?, add_block, hh]
    unfold Addr.add
    split
    · rename_i hj0; subst hj0; simpa using hj
    · simpa using hj
  | _ => simp [frz] at hy
theorem sub_cells {ad : Addr} {vs : List Value} (hu : ∀ (j : Nat) u, vs[j]? = some u → w.cell? (ad.add j) = some u) (off n : Nat) : ∀ (j : Nat) u, ((vs.drop off).take n)[j]? = some u → w.cell? ((ad.add off).add j) = some u := by
  intro j u hj
  rw [List.getElem?_take] at hj
  split at hj
  · rw [List.getElem?_drop] at hj
    rw [add_add]; exact hu _ u hj
  · cases hj

/-- A pointer's cells, wherever they lie: what lies in them is read by all. -/
theorem look_ptr {Im : Nat → Prop} (hE : Ents P Im w base env (tm a)) {n : Nat} {cs : List V} (hv : look env n = some (.r cs)) :
    ∃ (ad : Addr) (vs : List Value), tm a n = some (.pointer (some ad)) ∧ (∀ x ∈ cs, x.cell = true) ∧ Reps Im w vs cs ∧ ∀ (j : Nat) u, vs[j]? = some u → w.cell? (ad.add j) = some u := by
  have box : ∀ {m : Nat} {x : V} {cs : List V}, get m env = some x → rd x = some (.r cs) → ∃ (ad : Addr) (vs : List Value), tm a m = some (.pointer (some ad)) ∧ (∀ x ∈ cs, x.cell = true) ∧ Reps Im w vs cs ∧ ∀ (j : Nat) u, vs[j]? = some u → w.cell? (ad.add j) = some u := by
    intro m x cs hx hr
    obtain ⟨hs, hf⟩ := rd_some hr
    obtain ⟨u, hu, he⟩ := hE.ent m x hx
    rw [Ent.res1 hs] at he
    obtain ⟨ad, vs, rfl, h⟩ := slot_box he hf.symm
    exact ⟨ad, vs, hu, h⟩
  unfold look at hv
  cases hx : get n env with
  | none => rw [hx] at hv; cases hv
  | some x =>
    rw [hx] at hv
    cases x with
    | al m =>
      simp only at hv
      obtain ⟨u, hu, he⟩ := hE.ent n _ hx
      cases hm : get m env with
      | none => rw [hm] at hv; cases hv
      | some y =>
        rw [hm] at hv
        obtain ⟨ad, vs, h1, h⟩ := box hm hv
        have : tm a m = some u := he
        have := this.symm.trans h1; cases this
        exact ⟨ad, vs, hu, h⟩
    | pe m i off sz =>
      simp only at hv
      obtain ⟨u, hu, ad, l, c, k, h1, rfl, h3⟩ := hE.ent n _ hx
      cases hm : get m env with
      | none => rw [hm] at hv; cases hv
      | some y =>
        rw [hm] at hv
        simp only [Option.bind_some] at hv
        cases hy : rd y with
        | none => rw [hy] at hv; cases hv
        | some z =>
          rw [hy] at hv
          cases z with
          | l es =>
            simp only at hv
            cases hei : es[i]? with
            | none => rw [hei] at hv; cases hv
            | some e =>
              rw [hei] at hv
              simp only [Option.bind_some] at hv
              cases hsb : sub e.cells off sz with
              | none => rw [hsb] at hv; cases hv
              | some r =>
                rw [hsb] at hv
                simp only [Option.map_some, Option.some.injEq, V.r.injEq] at hv
                subst hv
                obtain ⟨hs, hf⟩ := rd_some hy
                obtain ⟨u', hu', he⟩ := hE.ent m y hm
                rw [Ent.res1 hs] at he
                have hne : es ≠ [] := fun e => by subst e; simp at hei
                obtain ⟨ad', c', k', vs, rfl, hk, hc, hr, hcell⟩ := slot_row he hf.symm hne
                have := h1.symm.trans hu'
                simp only [Option.some.injEq, Value.slice.injEq] at this
                obtain ⟨rfl, _, _⟩ := this
                have hk' := h3 y es hm hf.symm
                rw [← flatc_at hk' hei] at hsb
                have hrs := ((hr.drop (i * k)).take k).sub hsb
                obtain ⟨_, rfl⟩ := sub_some hsb
                refine ⟨_, _, hu, fun x hx => ?_, hrs, ?_⟩
                · exact hc x (List.mem_of_mem_drop (List.mem_of_mem_take (List.mem_of_mem_drop (List.mem_of_mem_take hx))))
                · rw [← add_add]
                  exact sub_cells (sub_cells hcell (i * k) k) off sz
          | _ => cases hv
    | pb m off sz =>
      simp only at hv
      obtain ⟨u, hu, ad, h1, rfl⟩ := hE.ent n _ hx
      cases hm : get m env with
      | none => rw [hm] at hv; cases hv
      | some y =>
        rw [hm] at hv
        simp only [Option.bind_some] at hv
        cases hy : rd y with
        | none => rw [hy] at hv; cases hv
        | some z =>
          rw [hy] at hv
          cases z with
          | r cs0 =>
            simp only at hv
            cases hsb : sub cs0 off sz with
            | none => rw [hsb] at hv; cases hv
            | some r =>
              rw [hsb] at hv
              simp only [Option.map_some, Option.some.injEq, V.r.injEq] at hv
              subst hv
              obtain ⟨ad', vs, hu', hc, hr, hcell⟩ := box hm hy
              have := h1.symm.trans hu'; cases this
              have hrs := hr.sub hsb
              obtain ⟨_, rfl⟩ := sub_some hsb
              exact ⟨_, _, hu, fun x hx => hc x (List.mem_of_mem_drop (List.mem_of_mem_take hx)), hrs, sub_cells hcell off sz⟩
          | _ => cases hv
    | _ => exact box hx hv

theorem qop_ld_inv {op : Op} {n : Nat} {ag : Bool} {xs : List Operand} (h : qop P op = some (.ld n ag, xs)) : ∃ t x, op = .load t x ∧ xs = [x] ∧ ((P.underlying t).isSome && (isAggB P t || P.cellsOf t == 1)) = true ∧ n = P.cellsOf t ∧ ag = isAggB P t := by
  rcases qop_inv h with hp | ⟨f, args, tys, _, he, _⟩ | ⟨x, args, tys, _, he, _⟩ | ⟨t, n, ps, k, _, _, _, he, _⟩
  · cases op with
    | load t x =>
      simp only [qop] at h
      split at h
      · simp only [Option.some.injEq, Prod.mk.injEq, XOp.ld.injEq] at h
        obtain ⟨⟨rfl, rfl⟩, rfl⟩ := h
        exact ⟨t, x, rfl, rfl, ‹_›, rfl, rfl⟩
      · cases h
    | _ => exfalso; revert h; simp only [qop]; intro h; (repeat' split at h) <;> simp_all [Option.bind_eq_some_iff]
  · cases he
  · cases he
  · cases he

/-- A load. -/
theorem load_at {Im : Nat → Prop} {t : TypeId} (hok : ((P.underlying t).isSome && (isAggB P t || P.cellsOf t == 1)) = true) {ad : Addr} {cs : List V} {vs : List Value} {v : V} (hc : ∀ x ∈ cs, x.cell = true) (hr : Reps Im w vs cs) (hcell : ∀ (j : Nat) u, vs[j]? = some u → w.cell? (ad.add j) = some u)
    (hl : cs.length = P.cellsOf t) (hv : (if isAggB P t = true then some (V.a cs) else cs[0]?) = some v) : ∃ u, Rep Im w u v ∧ (Instr.loadAt t (.pointer (some ad))).run P w = .ok u w := by
  simp only [Bool.and_eq_true, Bool.or_eq_true, beq_iff_eq] at hok
  obtain ⟨hs1, hs2⟩ := hok
  obtain ⟨d, hd⟩ := Option.isSome_iff_exists.1 hs1
  cases ha : isAggB P t with
  | true =>
    rw [ha] at hv
    simp only [if_true, Option.some.injEq] at hv
    subst hv
    refine ⟨.agg vs.toArray, Rep.mk_agg hc hr, ?_⟩
    have hL : (loadCells ad vs.length).run P w = .ok vs.toArray w := run_loadCells_list w ad vs hcell
    simp only [Instr.loadAt, Instr.sureAddr, Sem.run_bind, Sem.run_pure, Result.andThen_ok, loadVar, isAgg_run hd, ha, if_true, sizeOf_run hd, ← hl, ← hr.1, hL]
  | false =>
    rw [ha] at hv
    simp only [Bool.false_eq_true, if_false] at hv
    obtain ⟨u, hu', hru⟩ := hr.getD hv
    refine ⟨u, hru, ?_⟩
    have h0 : w.cell? ad = some u := by simpa [Addr.add] using hcell 0 u hu'
    simp only [Instr.loadAt, Instr.sureAddr, Sem.run_bind, Sem.run_pure, Result.andThen_ok, loadVar, isAgg_run hd, ha, Bool.false_eq_true, if_false]
    rw [run_load]
    simp [h0]
end
end Go.VM
