/-
  Steps: stores into memory of the call's own, and appends to it. No program is named here.
-/
import Derived.Test.YtonibcnbcnibeaaVm9f
namespace Go.VM
open Go.RowKit

section
variable {P : Program} {nt : Nat} {keep : List Nat} {S : Nat → Prop} {base : Nat} {w0 : World} {env env' : Env} {a : Act} {w : World} {o : Orc}

theorem add_zero (g j : Nat) : (⟨g, 0, none⟩ : Addr).add j = ⟨g, j, none⟩ := by unfold Addr.add; split <;> simp_all

/-- A slot's own memory turns. -/
theorem FI.store (hF : FI P nt keep S base w0 env a w) {m : Nat} {x x' : V} {u : Value} (hx : get m env = some x) (hown : x.isOwn = true) (hu : tm a m = some u) {g : Nat} (hg : blkOf u = some g) {cur : Array Value} {ty : TypeId} (hh : w.heap[g]? = some (.cells cur ty (0, 0))) (hown' : x'.isOwn = true)
    (hpe : ∀ es', frz x' = .l es' → ∃ es, frz x = .l es ∧ ∀ k, (∀ e ∈ es, e.cells.length = k) → ∀ e ∈ es', e.cells.length = k) {new : Array Value}
    (h : ∀ Im : Nat → Prop, (∀ b, S b → Im b) → (∀ b, Im b → (S b ∨ base ≤ b) ∧ b < w.heap.size) → ¬ Im g → base ≤ g → (∀ p : Addr, Im p.block → (w.setRow g new).cell? p = w.cell? p) → Ents P Im w base env (tm a) → Res1 P Im (w.setRow g new) base u x') :
    FI P nt keep S base w0 (VM.put m x' env) a (w.setRow g new) := by
  obtain ⟨Im, hI1, hI2, hE⟩ := hF.ents
  have hlt := Owns.lt hE (n := m) (c := none) ⟨x, u, hx, hown, hu, hg⟩
  have hIm : ∀ b, Im b → (w.setRow g new).heap[b]? = w.heap[b]? := fun b hb => setRow_other w g b new fun e => hlt.2.2 (e ▸ hb)
  have hres := h Im hI1 hI2 hlt.2.2 hlt.2.1 (fun p hp => World.cell?_of_block (hIm _ hp)) hE
  have hsz : (w.setRow g new).heap.size = w.heap.size := by simp [World.setRow]
  have hsmp := (own_kind hown').1
  refine ⟨hF.srt.put m x', hF.size, hF.defers, hF.below.trans ⟨rfl, rfl, rfl, by rw [hsz]; exact Nat.le_refl _, fun k hk => setRow_other w g k new (by omega)⟩, by rw [hsz]; exact hF.bsz, fun n y hy => ?_, Im, hI1, fun b hb => by rw [hsz]; exact hI2 b hb, ?_⟩
  · rw [get_put] at hy
    by_cases hn : n = m
    · rw [hn]; exact hF.keys m x hx
    · rw [if_neg hn] at hy; exact hF.keys n y hy
  · refine hE.upd hx hu (own_kind hown').2.1 hIm (fun n c g' hn ho => setRow_other w g g' new fun e => hn ?_) hpe (by rw [Ent.res1 hsmp]; exact hres) fun c g' ho => ?_
    · subst e
      exact (hE.apart n c m none g' ho ⟨x, u, hx, hown, hu, hg⟩).1
    · cases c with
      | none =>
        obtain ⟨z, v, _, _, hT, hg'⟩ := ho
        have := hu.symm.trans hT; cases this
        exact ⟨x, u, hx, hown, hu, hg'⟩
      | some j =>
        obtain ⟨zs, _, _, _, hz, _⟩ := ho
        rw [get_put, if_pos rfl] at hz
        cases hz
        exact absurd rfl ((own_kind hown').2.2 zs)

theorem storeAt_run {t : TypeId} {u : Value} {ad : Addr} {g j : Nat} (had : ad = ⟨g, j, none⟩) {cur : Array Value} {ty : TypeId} (hh : w.heap[g]? = some (.cells cur ty (0, 0))) (hs : u.cells.size = P.cellsOf t) (hpos : 0 < P.cellsOf t) (hfit : j + u.cells.size ≤ cur.size) (h1 : ∀ v ∈ u.cells.toList, v.oneCell' = true) :
    (Instr.storeAt t (.pointer (some ad)) u).run P w = .ok () (w.setRow g (cur.toList.take j ++ u.cells.toList ++ cur.toList.drop (j + u.cells.toList.length)).toArray) := by
  subst had
  obtain ⟨i0, hi0⟩ : ∃ i0, P.info? t = some i0 := by
    unfold Program.cellsOf at hpos
    cases h : P.info? t with
    | none => rw [h] at hpos; simp at hpos
    | some i0 => exact ⟨i0, rfl⟩
  have := run_storeCells_at P g j ty u.cells.toList 0 cur w hh (by simpa using hfit) h1
  simp only [Nat.add_zero] at this
  simp only [Instr.storeAt, Instr.sureAddr, Sem.run_bind, Sem.run_pure, Result.andThen_ok, storeVar, run_sizeOf w hi0, hs, ne_eq, not_true_eq_false, if_false, this]

theorem Reps.oneCell {Im : Nat → Prop} {vs : List Value} {xs : List V} (h : Reps Im w vs xs) (hc : ∀ x ∈ xs, x.cell = true) : ∀ v ∈ vs, v.oneCell' = true := by
  intro v hv
  obtain ⟨j, hj, rfl⟩ := List.getElem_of_mem hv
  have hj' : j < xs.length := by rw [← h.1]; exact hj
  exact (h.2 j _ _ (List.getElem?_eq_getElem hj) (List.getElem?_eq_getElem hj')).oneCell (hc _ (List.getElem_mem hj'))

theorem splice3 {α : Type} (l1 l2 l3 xs : List α) (off : Nat) (ho : off + xs.length ≤ l2.length) :
    (l1 ++ (l2 ++ l3)).take (l1.length + off) ++ xs ++ (l1 ++ (l2 ++ l3)).drop (l1.length + off + xs.length) = l1 ++ (l2.take off ++ xs ++ l2.drop (off + xs.length)) ++ l3 := by
  rw [List.take_append, List.take_of_length_le (by omega : l1.length ≤ l1.length + off), show l1.length + off - l1.length = off from by omega, List.take_append, show off - l2.length = 0 from by omega, List.take_zero, List.append_nil,
    List.drop_append, List.drop_eq_nil_of_le (by omega : l1.length ≤ l1.length + off + xs.length), List.nil_append, show l1.length + off + xs.length - l1.length = off + xs.length from by omega, List.drop_append, show off + xs.length - l2.length = 0 from by omega, List.drop_zero]
  simp only [List.append_assoc]
theorem splice_splice {α : Type} (l xs : List α) (A k off : Nat) (hk : A + k ≤ l.length) (ho : off + xs.length ≤ k) :
    l.take (A + off) ++ xs ++ l.drop (A + off + xs.length) = l.take A ++ (((l.drop A).take k).take off ++ xs ++ ((l.drop A).take k).drop (off + xs.length)) ++ l.drop (A + k) := by
  have h1 : (l.take A).length = A := by simp; omega
  have h2 : ((l.drop A).take k).length = k := by simp; omega
  have h3 : l = l.take A ++ ((l.drop A).take k ++ l.drop (A + k)) := by
    rw [← List.drop_drop, List.take_append_drop, List.take_append_drop]
  have := splice3 (l.take A) ((l.drop A).take k) (l.drop (A + k)) xs off (by rw [h2]; exact ho)
  rw [← h3, h1] at this
  exact this
theorem take_splice {α : Type} (L u : List α) (q N : Nat) (h : q + u.length ≤ N) (hN : N ≤ L.length) : (L.take q ++ u ++ L.drop (q + u.length)).take N = (L.take N).take q ++ u ++ (L.take N).drop (q + u.length) := by
  have hl : (L.take q ++ u).length = q + u.length := by simp; omega
  rw [List.take_append, List.take_of_length_le (by rw [hl]; exact h), hl, List.take_take, Nat.min_eq_left (by omega), List.drop_take]

/-- A store into a variable of the call's own, or into a part of it. -/
theorem store_box (hF : FI P nt keep S base w0 env a w) {t : TypeId} {x v : Operand} {oper : Oper} (hop : oper.op = .store t x v) (hpos : 0 < P.cellsOf t) {y : V} (hv : ∀ Im : Nat → Prop, Ents P Im w base env (tm a) → Rep Im w (a.eval v) y) (hyl : y.cells.length = P.cellsOf t) (hyc : y.cells.all V.cell = true)
    {m : Nat} {cs : List V} (hx : get m env = some (.bx cs)) {ad : Addr} (hm : tm a m = some (.pointer (some ad))) {off : Nat} (hxe : a.eval x = .pointer (some (ad.add off))) (hfit : off + P.cellsOf t ≤ cs.length) :
    ∃ w1, (execOp a.eval oper).run P w = .ok .skip w1 ∧ FI P nt keep S base w0 (put m (.bx (splice cs off y.cells)) env) a w1 := by
  obtain ⟨Im0, _, hI2, hE0⟩ := hF.ents
  obtain ⟨u, hu, ⟨g, vs, ty, rfl, hb, hh, hc, hr⟩, _⟩ := hE0.ent m _ hx
  have := hm.symm.trans hu
  simp only [Option.some.injEq, Value.pointer.injEq] at this
  subst this
  have hr0 := (hv Im0 hE0).cells
  have hsz : (a.eval v).cells.size = P.cellsOf t := by rw [← hyl, ← hr0.1, Array.length_toList]
  have hyc' : ∀ x ∈ y.cells, x.cell = true := fun x hx => List.all_eq_true.1 hyc x hx
  have hrun := storeAt_run (P := P) (t := t) (u := a.eval v) (add_zero g off) hh hsz hpos (by rw [hsz]; simpa [hr.1] using hfit) (hr0.oneCell hyc')
  have hrun2 : (execOp a.eval oper).run P w = .ok .skip (w.setRow g (vs.take off ++ (a.eval v).cells.toList ++ vs.drop (off + (a.eval v).cells.toList.length)).toArray) := by simp only [execOp, hop, hxe, Sem.run_bind, hrun, Result.andThen_ok, Sem.run_pure]
  refine ⟨_, hrun2, hF.store hx rfl hm rfl hh rfl (fun es' h => by simp [frz] at h) fun Im h1 h2 hg hbg hcell hE => ?_⟩
  obtain ⟨u', hu', ⟨g', vs', ty', he', _, hh', hc', hr'⟩, _⟩ := hE.ent m _ hx
  have := hm.symm.trans hu'; cases this
  simp only [Value.pointer.injEq, Option.some.injEq, Addr.mk.injEq, and_true] at he'
  subst he'
  rw [hh] at hh'
  simp only [Option.some.injEq, Obj.cells.injEq, and_true] at hh'
  obtain ⟨hvs, rfl⟩ := hh'
  have hvs : vs = vs' := by simpa using hvs
  subst hvs
  refine ⟨⟨g, vs.take off ++ (a.eval v).cells.toList ++ vs.drop (off + (a.eval v).cells.toList.length), ty, rfl, hbg, ?_, splice_mem hc' hyc', ?_⟩, fun g' hg' => ?_⟩
  · exact setRow_heap w g _ _ ty _ hh
  · exact (hr'.splice (hv Im hE).cells off).move (fun _ h => h) hcell
  · simp only [blkOf, Option.some.injEq] at hg'
    subst hg'; exact hg

theorem flatc_set {k : Nat} {es : List V} {i : Nat} {e e' : V} (h : ∀ e ∈ es, e.cells.length = k) (he : es[i]? = some e) : flatc (es.set i e') = (flatc es).take (i * k) ++ e'.cells ++ (flatc es).drop (i * k + k) := by
  have hi : i < es.length := (List.getElem?_eq_some_iff.1 he).1
  rw [flatc_take i h, show i * k + k = (i + 1) * k from by rw [Nat.succ_mul], flatc_drop (i + 1) h, List.set_eq_take_append_cons_drop, if_pos hi, flatc_append, flatc_cons, List.append_assoc]

/-- A store into an element of a slice of the call's own, or into a part of it. -/
theorem store_row (hF : FI P nt keep S base w0 env a w) {t : TypeId} {x v : Operand} {oper : Oper} (hop : oper.op = .store t x v) {y : V} (hv : ∀ Im : Nat → Prop, Ents P Im w base env (tm a) → Rep Im w (a.eval v) y) (hyl : y.cells.length = P.cellsOf t) (hyc : y.cells.all V.cell = true)
    {m e0 : Nat} {es : List V} (hx : get m env = some (.ow e0 es)) {ad : Addr} {l c k i off : Nat} (hm : tm a m = some (.slice (some ad) l c)) (hxe : a.eval x = .pointer (some (ad.add (i * k + off)))) (hk : ∀ e ∈ es, e.cells.length = k) {e : V} (he : es[i]? = some e) (hpos : 0 < P.cellsOf t) (hfit : off + P.cellsOf t ≤ e.cells.length) :
    ∃ w1, (execOp a.eval oper).run P w = .ok .skip w1 ∧ FI P nt keep S base w0 (put m (.ow e0 (es.set i (newE e off y))) env) a w1 := by
  have hi : i < es.length := (List.getElem?_eq_some_iff.1 he).1
  have hek : e.cells.length = k := hk e (List.mem_of_getElem? he)
  obtain ⟨Im0, _, hI2, hE0⟩ := hF.ents
  obtain ⟨u, hu, ⟨vs, ⟨hvl, hvv⟩, hkk, hc, hr⟩, _⟩ := hE0.ent m _ hx
  have hke : P.cellsOf e0 = k := by rw [← hek]; exact (hkk e (List.mem_of_getElem? he)).symm
  rcases hvv with ⟨_, h0⟩ | ⟨g, cap, cur, rfl, hb, hh, hn, hcm, hcs, ht⟩
  · omega
  have := hm.symm.trans hu
  simp only [Option.some.injEq, Value.slice.injEq] at this
  obtain ⟨rfl, rfl, rfl⟩ := this
  have hr0 := (hv Im0 hE0).cells
  have hsz : (a.eval v).cells.size = P.cellsOf t := by rw [← hyl, ← hr0.1, Array.length_toList]
  have hyc' : ∀ x ∈ y.cells, x.cell = true := fun x hx => List.all_eq_true.1 hyc x hx
  have hik : i * k + k ≤ es.length * k := by rw [← Nat.succ_mul]; exact Nat.mul_le_mul_right _ hi
  have hcap : es.length * k ≤ cur.size := by rw [hcs, hke]; exact Nat.mul_le_mul_right _ hn
  have hrun := storeAt_run (P := P) (t := t) (u := a.eval v) (add_zero g (i * k + off)) hh hsz hpos (by rw [hsz]; omega) (hr0.oneCell hyc')
  have hul : (a.eval v).cells.toList.length = P.cellsOf t := by simpa using hsz
  -- the element's new cells
  have hnew : ∃ nc : List V, (newE e off y).cells = nc ∧ nc = splice e.cells off y.cells := by
    refine ⟨_, rfl, ?_⟩
    cases e with
    | a cs => rfl
    | _ =>
      simp only [V.cells, List.length_cons, List.length_nil] at hfit
      have hoff : off = 0 := by omega
      subst hoff
      have h1 : y.cells.length = 1 := by omega
      show y.cells = _
      rw [splice, List.take_zero, List.nil_append, Nat.zero_add, List.drop_eq_nil_of_le (by rw [h1]; exact Nat.le_refl 1), List.append_nil]
  obtain ⟨nc, hnc, hnc'⟩ := hnew
  have hncl : nc.length = k := by rw [hnc', splice_length (by rw [hyl]; exact hfit), hek]
  generalize newE e off y = e' at hnc ⊢
  have hrun2 : (execOp a.eval oper).run P w = .ok .skip (w.setRow g (cur.toList.take (i * k + off) ++ (a.eval v).cells.toList ++ cur.toList.drop (i * k + off + (a.eval v).cells.toList.length)).toArray) := by simp only [execOp, hop, hxe, Sem.run_bind, hrun, Result.andThen_ok, Sem.run_pure]
  refine ⟨_, hrun2, hF.store hx rfl hm rfl hh rfl (fun es' h => ?_) fun Im h1 h2 hg hbg hcell hE => ?_⟩
  · simp only [frz, V.l.injEq] at h
    subst h
    refine ⟨es, rfl, fun k' hk' e2 he2 => ?_⟩
    have hkk' : k' = k := by rw [← hek]; exact (hk' e (List.mem_of_getElem? he)).symm
    rcases List.mem_or_eq_of_mem_set he2 with h | rfl
    · exact hk' _ h
    · rw [hnc, hncl, hkk']
  obtain ⟨u', hu', ⟨vs', ⟨hvl', hvv'⟩, _, hc', hr'⟩, _⟩ := hE.ent m _ hx
  have := hm.symm.trans hu'; cases this
  rcases hvv' with ⟨h0, _⟩ | ⟨g', cap', cur', he2, _, hh', _, _, _, ht'⟩
  · cases h0
  simp only [Value.slice.injEq, Option.some.injEq, Addr.mk.injEq, and_true, true_and] at he2
  obtain ⟨rfl, rfl⟩ := he2
  rw [hh] at hh'
  simp only [Option.some.injEq, Obj.cells.injEq, and_true] at hh'
  subst hh'
  have hvs : vs' = vs := by rw [← ht, ← ht']
  subst hvs
  rw [hke] at ht hvl
  have hvsl : vs'.length = es.length * k := by rw [hvl]
  have hspl : (cur.toList.take (i * k + off) ++ (a.eval v).cells.toList ++ cur.toList.drop (i * k + off + (a.eval v).cells.toList.length)).take (es.length * k) = vs'.take (i * k) ++ (((vs'.drop (i * k)).take k).take off ++ (a.eval v).cells.toList ++ ((vs'.drop (i * k)).take k).drop (off + (a.eval v).cells.toList.length)) ++ vs'.drop (i * k + k) := by
    rw [← splice_splice vs' (a.eval v).cells.toList (i * k) k off (by omega) (by rw [hul]; omega), ← ht]
    exact take_splice _ _ _ _ (by rw [hul]; omega) (by simpa using hcap)
  have hgs : es.length * P.cellsOf e0 = es.length * k := by rw [hke]
  refine ⟨⟨vs'.take (i * k) ++ (((vs'.drop (i * k)).take k).take off ++ (a.eval v).cells.toList ++ ((vs'.drop (i * k)).take k).drop (off + (a.eval v).cells.toList.length)) ++ vs'.drop (i * k + k), ⟨?_, .inr ⟨g, c, _, by rw [List.length_set], hbg, setRow_heap w g _ _ e0 _ hh, by rw [List.length_set]; exact hn, hcm, ?_, ?_⟩⟩, ?_, ?_, ?_⟩, fun g' hg' => ?_⟩
  · simp only [List.length_append, List.length_take, List.length_drop, hul, List.length_set, hgs, hvsl, Nat.min_def]
    repeat' split
    all_goals omega
  · rw [← hcs]
    simp only [List.size_toArray, List.length_append, List.length_take, List.length_drop, Array.length_toList, hul, Nat.min_def]
    repeat' split
    all_goals omega
  · rw [List.length_set, hgs]; exact hspl
  · intro z hz
    rw [hke]
    rcases List.mem_or_eq_of_mem_set hz with h | rfl
    · exact hk z h
    · rw [hnc, hncl]
  · intro z hz
    obtain ⟨e2, he2, hz2⟩ := List.mem_flatMap.1 hz
    rcases List.mem_or_eq_of_mem_set he2 with h | rfl
    · exact hc' z (List.mem_flatMap.2 ⟨e2, h, hz2⟩)
    · rw [hnc, hnc'] at hz2
      exact splice_mem (fun x hx => hc' x (List.mem_flatMap.2 ⟨e, List.mem_of_getElem? he, hx⟩)) hyc' z hz2
  · have hf := flatc_set (e' := e') hk he
    rw [hf, hnc, hnc']
    have hec : ((flatc es).drop (i * k)).take k = e.cells := flatc_at hk he
    have hmid := ((hr'.drop (i * k)).take k).splice (hv Im hE).cells off
    rw [hec] at hmid
    exact (((hr'.take (i * k)).append hmid).append (hr'.drop (i * k + k))).move (fun _ h => h) hcell
  · simp only [blkOf, Option.some.injEq] at hg'
    subst hg'; exact hg
end
end Go.VM
