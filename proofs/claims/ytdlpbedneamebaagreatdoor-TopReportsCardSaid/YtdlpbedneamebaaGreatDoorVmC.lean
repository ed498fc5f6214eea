/-
  Inversions: what the data must be where a quiet operation gives something. No program is named here.
-/
import Derived.Test.YtdlpbedneamebaaGreatDoorVmB
import Derived.Laws.IdiomStrings
import Derived.Laws.BytesString
set_option linter.unusedSectionVars false
namespace Go.VM
section
variable {o : Orc} {vs : List V} {v : V}
theorem inv_mv (h : opQ o .mv vs = some v) : ∃ x, vs = [x] ∧ v = x := by
  match vs, h with
  | [x], h => simp [opQ] at h; exact ⟨x, rfl, h.symm⟩
  | [], h => simp [opQ] at h
  | _ :: _ :: _, h => simp [opQ] at h
theorem inv_bin {op : BinOp} (h : opQ o (.bin op) vs = some v) : ∃ x y, vs = [x, y] ∧ binV op x y = some v := by
  match vs, h with
  | [x, y], h => exact ⟨x, y, rfl, h⟩
  | [], h => simp [opQ] at h
  | [_], h => simp [opQ] at h
  | _ :: _ :: _ :: _, h => simp [opQ] at h
theorem inv_binb {op : BinOp} (h : opQ o (.binb op) vs = some v) : ∃ x y, vs = [x, y] ∧ binbV op x y = some v := by
  match vs, h with
  | [x, y], h => exact ⟨x, y, rfl, h⟩
  | [], h => simp [opQ] at h
  | [_], h => simp [opQ] at h
  | _ :: _ :: _ :: _, h => simp [opQ] at h
theorem inv_un {op : UnOp} (h : opQ o (.un op) vs = some v) : ∃ x, vs = [x] ∧ unV op x = some v := by
  match vs, h with
  | [x], h => exact ⟨x, rfl, h⟩
  | [], h => simp [opQ] at h
  | _ :: _ :: _, h => simp [opQ] at h
theorem inv_eqa {neg : Bool} {ks : List Nat} (h : opQ o (.eqa neg ks) vs = some v) : ∃ xs ys r, vs = [.a xs, .a ys] ∧ eqCells ks xs ys = some r ∧ v = .b (if neg then !r else r) := by
  match vs, h with
  | [], h => simp [opQ] at h
  | [_], h => simp [opQ] at h
  | _ :: _ :: _ :: _, h => simp [opQ] at h
  | [x, y], h =>
    cases x <;> cases y <;> simp only [opQ, reduceCtorEq] at h
    rename_i xs ys
    cases hr : eqCells ks xs ys with
    | none => rw [hr] at h; cases h
    | some r => rw [hr] at h; exact ⟨xs, ys, r, rfl, hr, by simpa using h.symm⟩
theorem inv_slen (h : opQ o .slen vs = some v) : ∃ s, vs = [.s s] ∧ v = .i .i64 s.length := by
  match vs, h with
  | [], h => simp [opQ] at h
  | _ :: _ :: _, h => simp [opQ] at h
  | [x], h =>
    cases x <;> simp only [opQ, reduceCtorEq] at h
    rename_i s; cases h; exact ⟨s, rfl, rfl⟩
theorem inv_len (h : opQ o .len vs = some v) : ∃ es, vs = [.l es] ∧ v = .i .i64 es.length := by
  match vs, h with
  | [], h => simp [opQ] at h
  | _ :: _ :: _, h => simp [opQ] at h
  | [x], h =>
    cases x <;> simp only [opQ, reduceCtorEq] at h
    rename_i es; cases h; exact ⟨es, rfl, rfl⟩
theorem inv_fld {off n : Nat} {ag : Bool} (h : opQ o (.fld off n ag) vs = some v) : ∃ cs r, vs = [.a cs] ∧ sub cs off n = some r ∧ (if ag = true then some (V.a r) else r[0]?) = some v := by
  match vs, h with
  | [], h => simp [opQ] at h
  | _ :: _ :: _, h => simp [opQ] at h
  | [x], h =>
    cases x <;> simp only [opQ, reduceCtorEq] at h
    rename_i cs; cases hs : sub cs off n with
    | none => rw [hs] at h; cases h
    | some r => rw [hs] at h; exact ⟨cs, r, rfl, hs, h⟩
theorem inv_fa {off n : Nat} (h : opQ o (.fa off n) vs = some v) : ∃ cs r, vs = [.r cs] ∧ sub cs off n = some r ∧ v = .r r := by
  match vs, h with
  | [], h => simp [opQ] at h
  | _ :: _ :: _, h => simp [opQ] at h
  | [x], h =>
    cases x <;> simp only [opQ, reduceCtorEq] at h
    rename_i cs; cases hs : sub cs off n with
    | none => rw [hs] at h; cases h
    | some r => rw [hs] at h; exact ⟨cs, r, rfl, hs, by simpa using h.symm⟩
theorem inv_ld {n : Nat} {ag : Bool} (h : opQ o (.ld n ag) vs = some v) : ∃ cs, vs = [.r cs] ∧ cs.length = n ∧ (if ag = true then some (V.a cs) else cs[0]?) = some v := by
  match vs, h with
  | [], h => simp [opQ] at h
  | _ :: _ :: _, h => simp [opQ] at h
  | [x], h =>
    cases x <;> simp only [opQ, reduceCtorEq] at h
    rename_i cs; split at h
    · exact ⟨cs, rfl, ‹_›, h⟩
    · cases h
theorem inv_cnv {k : IntKind} (h : opQ o (.cnv k) vs = some v) : ∃ k0 m, vs = [.i k0 m] ∧ v = .i k (k.wrap m) := by
  match vs, h with
  | [], h => simp [opQ] at h
  | _ :: _ :: _, h => simp [opQ] at h
  | [x], h =>
    cases x <;> simp only [opQ, reduceCtorEq] at h
    rename_i k0 m; cases h; exact ⟨k0, m, rfl, rfl⟩
theorem inv_b2s (h : opQ o .b2s vs = some v) : ∃ es l, vs = [.l es] ∧ bytesOf es = some l ∧ v = .s l := by
  match vs, h with
  | [], h => simp [opQ] at h
  | _ :: _ :: _, h => simp [opQ] at h
  | [x], h =>
    cases x <;> simp only [opQ, reduceCtorEq] at h
    rename_i es
    simp only [Option.map_eq_some_iff] at h
    obtain ⟨l, h1, h2⟩ := h
    exact ⟨es, l, rfl, h1, h2.symm⟩
theorem bytesOf_eq : ∀ {es : List V} {l : List UInt8}, bytesOf es = some l → ∃ ns : List Int, es = ns.map (V.i .u8) ∧ l = ns.map fun n => UInt8.ofNat n.toNat
  | [], l, h => by simp only [bytesOf, Option.some.injEq] at h; exact ⟨[], rfl, h.symm⟩
  | x :: es, l, h => by
    unfold bytesOf at h
    split at h
    · rename_i he; cases he
    · rename_i n r he
      cases he
      simp only [Option.map_eq_some_iff] at h
      obtain ⟨t, h1, h2⟩ := h
      obtain ⟨ns, rfl, rfl⟩ := bytesOf_eq h1
      exact ⟨n :: ns, rfl, h2.symm⟩
    · cases h
theorem inv_ext {i : Nat} (h : opQ o (.ext i) vs = some v) : ∃ ys, vs = [.t ys] ∧ ys[i]? = some v := by
  match vs, h with
  | [], h => simp [opQ] at h
  | _ :: _ :: _, h => simp [opQ] at h
  | [x], h =>
    cases x <;> simp only [opQ, reduceCtorEq] at h
    rename_i ys; exact ⟨ys, rfl, h⟩
theorem inv_aix {len k : Nat} {ag : Bool} (h : opQ o (.aix len k ag) vs = some v) : ∃ cs kk n r, vs = [.a cs, .i kk n] ∧ 0 ≤ n ∧ n < (len : Int) ∧ sub cs (n.toNat * k) k = some r ∧ (if ag = true then some (V.a r) else r[0]?) = some v := by
  match vs, h with
  | [], h => simp [opQ] at h
  | [_], h => simp [opQ] at h
  | _ :: _ :: _ :: _, h => simp [opQ] at h
  | [x, y], h =>
    cases x <;> try (simp [opQ] at h; done)
    cases y <;> try (simp [opQ] at h; done)
    simp only [opQ] at h
    split at h
    · rename_i hn
      obtain ⟨r, h1, h2⟩ := Option.bind_eq_some_iff.1 h
      exact ⟨_, _, _, r, rfl, hn.1, hn.2, h1, h2⟩
    · cases h
theorem inv_pix {len k : Nat} (h : opQ o (.pix len k) vs = some v) : ∃ cs kk n r, vs = [.r cs, .i kk n] ∧ 0 ≤ n ∧ n < (len : Int) ∧ sub cs (n.toNat * k) k = some r ∧ v = .r r := by
  match vs, h with
  | [], h => simp [opQ] at h
  | [_], h => simp [opQ] at h
  | _ :: _ :: _ :: _, h => simp [opQ] at h
  | [x, y], h =>
    cases x <;> try (simp [opQ] at h; done)
    cases y <;> try (simp [opQ] at h; done)
    simp only [opQ] at h
    split at h
    · rename_i hn
      obtain ⟨r, h1, h2⟩ := Option.map_eq_some_iff.1 h
      exact ⟨_, _, _, r, rfl, hn.1, hn.2, h1, h2.symm⟩
    · cases h
theorem inv_idx (h : opQ o .idx vs = some v) : ∃ s k n c, vs = [.s s, .i k n] ∧ 0 ≤ n ∧ s[n.toNat]? = some c ∧ v = .i .u8 c.toNat := by
  match vs, h with
  | [], h => simp [opQ] at h
  | [x], h => cases x <;> simp [opQ] at h
  | x :: _ :: _ :: _, h => cases x <;> simp [opQ] at h
  | [x, y], h =>
    cases x <;> cases y <;> simp only [opQ, reduceCtorEq] at h
    rename_i s k n; split at h
    · cases hc : s[n.toNat]? with
      | none => rw [hc] at h; cases h
      | some c => rw [hc] at h; exact ⟨s, k, n, c, rfl, ‹_›, hc, by simpa using h.symm⟩
    · cases h
theorem inv_ix {k : Nat} (h : opQ o (.ix k) vs = some v) : ∃ es kk n e, vs = [.l es, .i kk n] ∧ 0 ≤ n ∧ es[n.toNat]? = some e ∧ e.cells.length = k ∧ v = .r e.cells := by
  match vs, h with
  | [], h => simp [opQ] at h
  | [x], h => cases x <;> simp [opQ] at h
  | x :: _ :: _ :: _, h => cases x <;> simp [opQ] at h
  | [x, y], h =>
    cases x <;> cases y <;> simp only [opQ, reduceCtorEq] at h
    rename_i es kk n; split at h
    · cases hc : es[n.toNat]? with
      | none => rw [hc] at h; cases h
      | some e =>
        rw [hc] at h
        simp only [Option.bind_some] at h
        split at h
        · exact ⟨es, kk, n, e, rfl, ‹_›, hc, ‹_›, by simpa using h.symm⟩
        · cases h
    · cases h
theorem inv_slcs {lo hi : Bool} (h : opQ o (.slcs lo hi) vs = some v) : ∃ s bs p, vs = .s s :: bs ∧ bnds s.length lo hi bs = some p ∧ v = .s ((s.take p.2).drop p.1) := by
  match vs, h with
  | [], h => simp [opQ] at h
  | x :: bs, h =>
    cases x <;> simp only [opQ, reduceCtorEq] at h
    rename_i s
    cases hb : bnds s.length lo hi bs with
    | none => rw [hb] at h; cases h
    | some p => rw [hb] at h; exact ⟨s, bs, p, rfl, hb, by simpa using h.symm⟩
theorem inv_slc {k : Nat} {lo hi : Bool} (h : opQ o (.slc k lo hi) vs = some v) : ∃ es bs p, vs = .l es :: bs ∧ es.all (fun x => x.cells.length == k) = true ∧ bnds es.length lo hi bs = some p ∧ v = .l ((es.take p.2).drop p.1) := by
  match vs, h with
  | [], h => simp [opQ] at h
  | x :: bs, h =>
    cases x <;> simp only [opQ, reduceCtorEq] at h
    rename_i es
    split at h
    · cases hb : bnds es.length lo hi bs with
      | none => rw [hb] at h; cases h
      | some p => rw [hb] at h; exact ⟨es, bs, p, rfl, ‹_›, hb, by simpa using h.symm⟩
    · cases h
theorem inv_bld {z : List V} {ps : List (Nat × Nat)} (h : opQ o (.bld z ps) vs = some v) : ∃ r, bldV z ps vs = some r ∧ v = .a r := by
  have h' : (bldV z ps vs).map V.a = some v := by
    match vs, h with
    | [], h => simpa [opQ] using h
    | [x], h => cases x <;> simpa [opQ] using h
    | [x, y], h => cases x <;> cases y <;> simpa [opQ] using h
    | x :: y :: _ :: _, h => cases x <;> simpa [opQ] using h
  cases hb : bldV z ps vs with
  | none => rw [hb] at h'; cases h'
  | some r => rw [hb] at h'; exact ⟨r, rfl, by simpa using h'.symm⟩
theorem inv_mx (h : opQ o .mx vs = some v) : maxV vs = some v := by
  match vs, h with
  | [], h => simpa [opQ] using h
  | [x], h => cases x <;> simpa [opQ] using h
  | [x, y], h => cases x <;> cases y <;> simpa [opQ] using h
  | x :: y :: _ :: _, h => cases x <;> simpa [opQ] using h
theorem inv_mn (h : opQ o .mn vs = some v) : minV vs = some v := by
  match vs, h with
  | [], h => simpa [opQ] using h
  | [x], h => cases x <;> simpa [opQ] using h
  | [x, y], h => cases x <;> cases y <;> simpa [opQ] using h
  | x :: y :: _ :: _, h => cases x <;> simpa [opQ] using h
end
end Go.VM
/-
  Every quiet operation of the model that the compiler takes does what the evaluator says. No program is named here.
-/
namespace Go.VM
open Go.RowKit
variable [Glob]

def XOp.plain : XOp → Bool
  | .call _ _ | .callv _ | .bsl _ => false
  | _ => true

section
variable {P : Program} {S : Nat → Prop} {w : World}

theorem reps1 {us : List Value} {x : V} (h : Reps S w us [x]) : ∃ u, us = [u] ∧ Rep S w u x := by
  match us, h with
  | [], h => exact absurd h.1 (by simp)
  | [u], h => exact ⟨u, rfl, h.head⟩
  | _ :: _ :: _, h => exact absurd h.1 (by simp)
theorem reps2 {us : List Value} {x y : V} (h : Reps S w us [x, y]) : ∃ u v, us = [u, v] ∧ Rep S w u x ∧ Rep S w v y := by
  match us, h with
  | [], h => exact absurd h.1 (by simp)
  | [_], h => exact absurd h.1 (by simp)
  | [u, v], h => exact ⟨u, v, rfl, h.head, h.tail.head⟩
  | _ :: _ :: _ :: _, h => exact absurd h.1 (by simp)

def Yields1 (P : Program) (S : Nat → Prop) (w : World) (s : Sem Next) (v : V) : Prop :=
  ∃ u, Rep S w u v ∧ ∀ w' : World, (∀ p : Addr, S p.block → w'.cell? p = w.cell? p) → s.run P w' = .ok (.value u) w'

theorem len_eq {tys : Array TypeId} {us : Array Value} {t ty : TypeId} {a : Value} (ht : tys[0]? = some t) (ha : us[0]? = some a) : Builtin.len_ tys ty us = Builtin.len_ #[t] ty #[a] := by
  unfold Builtin.len_
  simp only [ht, ha]
  rfl
theorem Yields1.of {s : Sem Value} {v : V} (h : ∃ u, Rep S w u v ∧ ∀ w' : World, s.run P w' = .ok u w') : Yields1 P S w (do pure (.value (← s)) : Sem Next) v := by
  obtain ⟨u, hu, hr⟩ := h
  exact ⟨u, hu, fun w' _ => by simp [hr w']⟩
theorem Yields1.of' {s : Sem Value} {v : V} (h : ∃ u, Rep S w u v ∧ ∀ w' : World, (∀ p : Addr, S p.block → w'.cell? p = w.cell? p) → s.run P w' = .ok u w') : Yields1 P S w (do pure (.value (← s)) : Sem Next) v := by
  obtain ⟨u, hu, hr⟩ := h
  exact ⟨u, hu, fun w' hw => by simp [hr w' hw]⟩

theorem b2s_run {u : Value} {es : List V} {l : List UInt8} (h : Rep S w u (.l es)) (hb : bytesOf es = some l) {s d e : TypeId} (hs : P.underlying s = some (.slice e)) (hd : P.underlying d = some .string) (he : P.underlying e = some (.int .u8)) :
    ∃ b : ByteArray, b.data.toList = l ∧ ∀ w' : World, (∀ p : Addr, S p.block → w'.cell? p = w.cell? p) → (convert s d u).run P w' = .ok (.string b) w' := by
  obtain ⟨ns, rfl, rfl⟩ := bytesOf_eq hb
  have hfold : ∀ (ns : List Int) (r : ByteArray), ns.foldl (fun r n => r.push (UInt8.ofNat n.toNat)) r = ⟨r.data ++ (ns.map fun n => UInt8.ofNat n.toNat).toArray⟩ := by
    intro ns
    induction ns with
    | nil => intro r; simp
    | cons n ns ih => intro r; rw [List.foldl_cons, ih]; simp [ByteArray.push]
  have hfl : ∀ ns : List Int, flatc (ns.map (V.i .u8)) = ns.map (V.i .u8) := by
    intro ns
    induction ns with
    | nil => rfl
    | cons n ns ih => rw [List.map_cons, flatc_cons, ih]; rfl
  generalize hz : V.l (ns.map (V.i .u8)) = z at h
  cases h <;> first | (cases hz; done) | skip
  · rename_i a c
    have hn : ns = [] := by have := V.l.inj hz; simpa using this
    subst hn
    refine ⟨ByteArray.empty, rfl, fun w' _ => ?_⟩
    rw [run_convert_bytes_string w' s d e a 0 c hs he hd]
    cases a with
    | none => rfl
    | some a => exact run_bytesToString w' a 0 c [] (run_loadCells_list (P := P) w' a [] (fun j v hj => by simp at hj))
  · rename_i a c k es' vs hS hc hk h1 hl hu hrep
    have hn : ns.map (V.i .u8) = es' := V.l.inj hz
    subst hn
    refine ⟨⟨(ns.map fun n => UInt8.ofNat n.toNat).toArray⟩, by simp, fun w' hw => ?_⟩
    rw [List.length_map, run_convert_bytes_string w' s d e (some a) ns.length c hs he hd]
    rw [hfl, List.length_map] at hl
    rw [hfl] at hrep
    have hvs : vs = ns.map (Value.int .u8) := by
      refine List.ext_getElem (by simpa using hl) fun j hj hj' => ?_
      have hj2 : j < ns.length := by simpa using hj'
      have := hrep j vs[j] (.i .u8 ns[j]) (List.getElem?_eq_getElem hj) (by rw [List.getElem?_map, List.getElem?_eq_getElem hj2]; rfl)
      rw [List.getElem_map]
      generalize vs[j] = y at this
      cases this; rfl
    have hload := run_loadCells_list (P := P) w' a vs (fun j v hj => by rw [hw (a.add j) (by rw [add_block]; exact hS)]; exact hu j v hj)
    rw [hl] at hload
    rw [run_bytesToString w' a ns.length c ns (by rw [hload, hvs])]
    rw [hfold]
    simp
theorem qop_plain {o : Orc} {op : Op} {p : XOp} {xs : List Operand} (h : qop P op = some (p, xs)) (hp : p.plain = true) (ρ : Operand → Value) (oper : Oper) (hop : oper.op = op) (vs : List V) (v : V)
    (hr : Reps S w (xs.map ρ) vs) (hv : opQ o p vs = some v) : Yields1 P S w (execOp ρ oper) v := by
  unfold qop at h
  split at h
  · simp only [Option.some.injEq, Prod.mk.injEq] at h
    obtain ⟨rfl, rfl⟩ := h
    obtain ⟨x, rfl, rfl⟩ := inv_mv hv
    obtain ⟨u, hu, hru⟩ := reps1 hr
    simp only [List.map_cons, List.map_nil, List.cons.injEq, and_true] at hu
    subst hu
    exact ⟨_, hru, fun w' _ => by simp [execOp, hop]⟩
  · simp only [Option.some.injEq, Prod.mk.injEq] at h
    obtain ⟨rfl, rfl⟩ := h
    obtain ⟨x, rfl, rfl⟩ := inv_mv hv
    obtain ⟨u, hu, hru⟩ := reps1 hr
    simp only [List.map_cons, List.map_nil, List.cons.injEq, and_true] at hu
    subst hu
    exact ⟨_, hru, fun w' _ => by simp [execOp, hop]⟩
  · -- binOp
    rename_i op t x y yt
    have hx : execOp ρ oper = (do pure (.value (← (do eqGuard op t x y (ρ x) (ρ y); binOp op t (ρ x) (ρ y) : Sem Value))) : Sem Next) := by simp only [execOp, hop]
    rw [hx]
    split at h
    · rename_i fs hu
      cases hs : scal P 12 t with
      | none => rw [hs] at h; cases h
      | some ks =>
        rw [hs] at h
        simp only [Option.map_some, Option.some.injEq, Prod.mk.injEq] at h
        obtain ⟨rfl, rfl⟩ := h
        obtain ⟨as, bs, r, rfl, he, rfl⟩ := inv_eqa hv
        obtain ⟨a, b, hab, h1, h2⟩ := reps2 hr
        simp only [List.map_cons, List.map_nil, List.cons.injEq, and_true] at hab
        obtain ⟨rfl, rfl⟩ := hab
        exact .of ⟨_, .b _, eqa_run hs hu false x y _ _ as bs r h1 h2 he (eqCells_length he)⟩
    · rename_i fs hu
      cases hs : scal P 12 t with
      | none => rw [hs] at h; cases h
      | some ks =>
        rw [hs] at h
        simp only [Option.map_some, Option.some.injEq, Prod.mk.injEq] at h
        obtain ⟨rfl, rfl⟩ := h
        obtain ⟨as, bs, r, rfl, he, rfl⟩ := inv_eqa hv
        obtain ⟨a, b, hab, h1, h2⟩ := reps2 hr
        simp only [List.map_cons, List.map_nil, List.cons.injEq, and_true] at hab
        obtain ⟨rfl, rfl⟩ := hab
        exact .of ⟨_, .b _, eqa_run hs hu true x y _ _ as bs r h1 h2 he (eqCells_length he)⟩
    · rename_i hu
      simp only [Option.some.injEq, Prod.mk.injEq] at h
      obtain ⟨rfl, rfl⟩ := h
      obtain ⟨p, q, rfl, he⟩ := inv_binb hv
      obtain ⟨a, b, hab, h1, h2⟩ := reps2 hr
      simp only [List.map_cons, List.map_nil, List.cons.injEq, and_true] at hab
      obtain ⟨rfl, rfl⟩ := hab
      exact .of (binb_run _ t hu x y _ _ p q v h1 h2 he)
    · simp only [Option.some.injEq, Prod.mk.injEq] at h
      obtain ⟨rfl, rfl⟩ := h
      obtain ⟨p, q, rfl, he⟩ := inv_bin hv
      obtain ⟨a, b, hab, h1, h2⟩ := reps2 hr
      simp only [List.map_cons, List.map_nil, List.cons.injEq, and_true] at hab
      obtain ⟨rfl, rfl⟩ := hab
      exact .of (bin_run _ t x y _ _ p q v h1 h2 he)
    · simp only [Option.some.injEq, Prod.mk.injEq] at h
      obtain ⟨rfl, rfl⟩ := h
      obtain ⟨p, q, rfl, he⟩ := inv_bin hv
      obtain ⟨a, b, hab, h1, h2⟩ := reps2 hr
      simp only [List.map_cons, List.map_nil, List.cons.injEq, and_true] at hab
      obtain ⟨rfl, rfl⟩ := hab
      exact .of (bin_run _ t x y _ _ p q v h1 h2 he)
    · cases h
  · -- unOp
    simp only [Option.some.injEq, Prod.mk.injEq] at h
    obtain ⟨rfl, rfl⟩ := h
    rename_i op t x
    obtain ⟨p, rfl, he⟩ := inv_un hv
    obtain ⟨a, ha, h1⟩ := reps1 hr
    simp only [List.map_cons, List.map_nil, List.cons.injEq, and_true] at ha
    subst ha
    have hx : execOp ρ oper = (do pure (.value (← Op.unary op (ρ x))) : Sem Next) := by simp only [execOp, hop]
    rw [hx]
    exact .of (un_run op _ p v h1 he)
  · -- convert
    rename_i s d x
    split at h
    · rename_i k0 k hs hd
      simp only [Option.some.injEq, Prod.mk.injEq] at h
      obtain ⟨rfl, rfl⟩ := h
      obtain ⟨k1, m, rfl, rfl⟩ := inv_cnv hv
      obtain ⟨a, ha, h1⟩ := reps1 hr
      simp only [List.map_cons, List.map_nil, List.cons.injEq, and_true] at ha
      subst ha
      have hx : execOp ρ oper = (do pure (.value (← convert s d (ρ x))) : Sem Next) := by simp only [execOp, hop]
      rw [hx]
      refine .of ⟨_, .i _ _, fun w' => ?_⟩
      generalize ρ x = xv at h1
      cases h1
      simp [convert, run_underlying hs, run_underlying hd, Conv.intToInt]
    · rename_i e hs hd
      split at h
      · rename_i he
        simp only [Option.some.injEq, Prod.mk.injEq] at h
        obtain ⟨rfl, rfl⟩ := h
        obtain ⟨es, l, rfl, hb, rfl⟩ := inv_b2s hv
        obtain ⟨a, ha, h1⟩ := reps1 hr
        simp only [List.map_cons, List.map_nil, List.cons.injEq, and_true] at ha
        subst ha
        have hx : execOp ρ oper = (do pure (.value (← convert s d (ρ x))) : Sem Next) := by simp only [execOp, hop]
        rw [hx]
        obtain ⟨b, hbr, hrun⟩ := b2s_run h1 hb hs hd he
        exact .of' ⟨.string b, hbr ▸ .s b, hrun⟩
      · cases h
    · cases h
  · -- fieldAddr
    rename_i t x i
    split at h
    · rename_i fs hu
      cases hf : fs[i]? with
      | none => rw [hf] at h; cases h
      | some f =>
        rw [hf] at h
        simp only [Option.bind_some] at h
        split at h
        · simp only [Option.some.injEq, Prod.mk.injEq] at h
          obtain ⟨rfl, rfl⟩ := h
          obtain ⟨cs, r, rfl, hs, rfl⟩ := inv_fa hv
          obtain ⟨a, ha, h1⟩ := reps1 hr
          simp only [List.map_cons, List.map_nil, List.cons.injEq, and_true] at ha
          subst ha
          have hx : execOp ρ oper = (do pure (.value (← Instr.fieldAt t (ρ x) i)) : Sem Next) := by simp only [execOp, hop]
          rw [hx]
          exact .of (fa_run hu hf ‹_› _ cs r h1 hs)
        · cases h
    · cases h
  · -- field
    rename_i t x i
    split at h
    · rename_i fs hu
      cases hf : fs[i]? with
      | none => rw [hf] at h; cases h
      | some f =>
        rw [hf] at h
        simp only [Option.bind_some] at h
        split at h
        · simp only [Option.some.injEq, Prod.mk.injEq] at h
          obtain ⟨rfl, rfl⟩ := h
          obtain ⟨cs, r, rfl, hs, he⟩ := inv_fld hv
          obtain ⟨a, ha, h1⟩ := reps1 hr
          simp only [List.map_cons, List.map_nil, List.cons.injEq, and_true] at ha
          subst ha
          have hx : execOp ρ oper = (do pure (.value (← Instr.field t (ρ x) i)) : Sem Next) := by simp only [execOp, hop]
          rw [hx]
          exact .of (fld_run hu hf ‹_› _ cs r v h1 hs he)
        · cases h
    · cases h
  · -- indexAddr
    rename_i t x i
    split at h
    · rename_i e hu
      split at h
      · simp only [Option.some.injEq, Prod.mk.injEq] at h
        obtain ⟨rfl, rfl⟩ := h
        obtain ⟨es, k, n, y, rfl, h0, hy, hl, rfl⟩ := inv_ix hv
        obtain ⟨a, b, hab, h1, h2⟩ := reps2 hr
        simp only [List.map_cons, List.map_nil, List.cons.injEq, and_true] at hab
        obtain ⟨rfl, rfl⟩ := hab
        have hx : execOp ρ oper = (do pure (.value (← Instr.indexAt t (ρ x) (ρ i))) : Sem Next) := by simp only [execOp, hop]
        rw [hx]
        exact .of (ix_run hu ‹_› _ _ es k n y h1 h2 h0 hy hl)
      · cases h
    · rename_i len e hu
      split at h
      · simp only [Option.some.injEq, Prod.mk.injEq] at h
        obtain ⟨rfl, rfl⟩ := h
        obtain ⟨cs, k, n, r, rfl, h0, hn, hs, rfl⟩ := inv_pix hv
        obtain ⟨a, b, hab, h1, h2⟩ := reps2 hr
        simp only [List.map_cons, List.map_nil, List.cons.injEq, and_true] at hab
        obtain ⟨rfl, rfl⟩ := hab
        have hx : execOp ρ oper = (do pure (.value (← Instr.indexAt t (ρ x) (ρ i))) : Sem Next) := by simp only [execOp, hop]
        rw [hx]
        exact .of (pix_run hu ‹_› _ _ cs r k n h1 h2 h0 hn hs)
      · cases h
    · cases h
  · -- index
    rename_i t x i
    split at h
    · rename_i hu
      simp only [Option.some.injEq, Prod.mk.injEq] at h
      obtain ⟨rfl, rfl⟩ := h
      obtain ⟨s, k, n, c, rfl, h0, hc, rfl⟩ := inv_idx hv
      obtain ⟨a, b, hab, h1, h2⟩ := reps2 hr
      simp only [List.map_cons, List.map_nil, List.cons.injEq, and_true] at hab
      obtain ⟨rfl, rfl⟩ := hab
      have hx : execOp ρ oper = (do pure (.value (← Instr.index t (ρ x) (ρ i))) : Sem Next) := by simp only [execOp, hop]
      rw [hx]
      exact .of (idx_run hu _ _ s k n c h1 h2 h0 hc)
    · rename_i len e hu
      split at h
      · simp only [Option.some.injEq, Prod.mk.injEq] at h
        obtain ⟨rfl, rfl⟩ := h
        obtain ⟨cs, k, n, r, rfl, h0, hn, hs, he⟩ := inv_aix hv
        obtain ⟨a, b, hab, h1, h2⟩ := reps2 hr
        simp only [List.map_cons, List.map_nil, List.cons.injEq, and_true] at hab
        obtain ⟨rfl, rfl⟩ := hab
        have hx : execOp ρ oper = (do pure (.value (← Instr.index t (ρ x) (ρ i))) : Sem Next) := by simp only [execOp, hop]
        rw [hx]
        exact .of (aix_run hu ‹_› _ _ cs r k n v h1 h2 h0 hn hs he)
      · cases h
    · cases h
  · -- load
    rename_i t a
    split at h
    · simp only [Option.some.injEq, Prod.mk.injEq] at h
      obtain ⟨rfl, rfl⟩ := h
      obtain ⟨cs, rfl, hl, he⟩ := inv_ld hv
      obtain ⟨a', ha, h1⟩ := reps1 hr
      simp only [List.map_cons, List.map_nil, List.cons.injEq, and_true] at ha
      subst ha
      have hx : execOp ρ oper = (do pure (.value (← Instr.loadAt t (ρ a))) : Sem Next) := by simp only [execOp, hop]
      rw [hx]
      exact .of' (load_run ‹_› _ cs v h1 hl he)
    · cases h
  · -- slice
    rename_i t x lo hi
    have hx : execOp ρ oper = (do pure (.value (← Instr.sliceAt t (ρ x) (lo.map ρ) (hi.map ρ) none)) : Sem Next) := by simp only [execOp, hop, Option.map_none]
    rw [hx]
    have hlo : (lo.map ρ).isSome = lo.isSome := by cases lo <;> rfl
    have hhi : (hi.map ρ).isSome = hi.isSome := by cases hi <;> rfl
    have hl : (lo.toList ++ hi.toList).map ρ = (lo.map ρ).toList ++ (hi.map ρ).toList := by cases lo <;> cases hi <;> rfl
    split at h
    · rename_i hu
      simp only [Option.some.injEq, Prod.mk.injEq] at h
      obtain ⟨rfl, rfl⟩ := h
      obtain ⟨s, bs, p, rfl, hb, rfl⟩ := inv_slcs hv
      rw [List.map_cons, hl] at hr
      exact .of (slcs_run hu (lo.map ρ) (hi.map ρ) _ s bs p hr.head hr.tail (by rw [hlo, hhi]; exact hb))
    · rename_i e hu
      split at h
      · cases h
      · rename_i he
        simp only [Option.some.injEq, Prod.mk.injEq] at h
        obtain ⟨rfl, rfl⟩ := h
        obtain ⟨es, bs, p, rfl, hk, hb, rfl⟩ := inv_slc hv
        have hel : P.elem t = e := by simp [Program.elem, hu]
        rw [hel] at hk
        rw [List.map_cons, hl] at hr
        exact .of (slc_run hu (by cases hq : P.underlying e <;> simp_all) (lo.map ρ) (hi.map ρ) _ es bs p hr.head hk hr.tail (by rw [hlo, hhi]; exact hb))
    · cases h
  · -- extract
    rename_i t i
    simp only [Option.some.injEq, Prod.mk.injEq] at h
    obtain ⟨rfl, rfl⟩ := h
    obtain ⟨ys, rfl, hy⟩ := inv_ext hv
    obtain ⟨a, ha, h1⟩ := reps1 hr
    simp only [List.map_cons, List.map_nil, List.cons.injEq, and_true] at ha
    subst ha
    have hx : execOp ρ oper = (do pure (.value (← Instr.extract (ρ t) i)) : Sem Next) := by simp only [execOp, hop]
    rw [hx]
    generalize ρ t = tv at h1
    cases h1 with
    | t us _ hl hh =>
      have hi : i < us.size := by rw [hl]; exact (List.getElem?_eq_some_iff.1 hy).1
      exact .of ⟨us[i], hh i _ v (Array.getElem?_eq_getElem hi) hy, fun w' => by simp [Instr.extract, Array.getElem?_eq_getElem hi]⟩
  · -- build
    rename_i t ps
    split at h
    · rename_i fs hu
      cases hz : zeroCells P t with
      | none => rw [hz] at h; cases h
      | some z =>
        rw [hz] at h
        simp only [Option.bind_some] at h
        cases hq : places P fs with
        | none => rw [hq] at h; cases h
        | some qs =>
          rw [hq] at h
          simp only [Option.bind_some] at h
          cases hpl : placed qs ps.toList with
          | none => rw [hpl] at h; cases h
          | some pl =>
            rw [hpl] at h
            simp only [Option.bind_some, Option.some.injEq, Prod.mk.injEq] at h
            obtain ⟨rfl, rfl⟩ := h
            obtain ⟨r, hb, rfl⟩ := inv_bld hv
            have hx : execOp ρ oper = (do pure (.value (← Instr.build t (ps.map fun (i, x) => (i, ρ x)))) : Sem Next) := by simp only [execOp, hop]
            rw [hx]
            exact .of (bld_run hu hz hq ρ ps hpl vs r (by simpa [List.map_map, Function.comp_def] using hr) hb)
    · rename_i n e hu
      cases hz : zeroCells P t with
      | none => rw [hz] at h; cases h
      | some z =>
        rw [hz] at h
        simp only [Option.bind_some] at h
        cases hie : P.info? e with
        | none => rw [hie] at h; cases h
        | some ie =>
          rw [hie] at h
          simp only [Option.bind_some, Option.some.injEq, Prod.mk.injEq] at h
          obtain ⟨rfl, rfl⟩ := h
          obtain ⟨r, hb, rfl⟩ := inv_bld hv
          have hx : execOp ρ oper = (do pure (.value (← Instr.build t (ps.map fun (i, x) => (i, ρ x)))) : Sem Next) := by simp only [execOp, hop]
          rw [hx]
          exact .of (bld_run_arr hu hz hie ρ ps vs r (by simpa [List.map_map, Function.comp_def] using hr) hb)
    · cases h
  · -- buildSlice
    split at h
    · split at h
      · simp only [Option.some.injEq, Prod.mk.injEq] at h
        obtain ⟨rfl, rfl⟩ := h
        simp [XOp.plain] at hp
      · cases h
    · cases h
  · simp only [Option.some.injEq, Prod.mk.injEq] at h
    obtain ⟨rfl, rfl⟩ := h
    simp [XOp.plain] at hp
  · simp only [Option.some.injEq, Prod.mk.injEq] at h
    obtain ⟨rfl, rfl⟩ := h
    simp [XOp.plain] at hp
  · -- len
    rename_i args tys
    have hx : ∀ w', (execOp ρ oper).run P w' = (do pure (.value (← Builtin.len_ tys oper.type (args.map ρ))) : Sem Next).run P w' := fun w' => by simp [execOp, hop, resolve, invoke, builtin]
    have hty : ∀ {q : TypeDesc}, (tys[0]?).bind P.underlying = some q → ∃ t, tys[0]? = some t ∧ P.underlying t = some q := fun {q} hq => by
      cases h0 : tys[0]? with
      | none => rw [h0] at hq; cases hq
      | some t => rw [h0] at hq; exact ⟨t, rfl, hq⟩
    split at h
    · rename_i x hargs hu
      simp only [Option.some.injEq, Prod.mk.injEq] at h
      obtain ⟨rfl, rfl⟩ := h
      obtain ⟨t, ht, hu⟩ := hty hu
      obtain ⟨s, rfl, rfl⟩ := inv_slen hv
      obtain ⟨a, ha, h1⟩ := reps1 hr
      simp only [List.map_cons, List.map_nil, List.cons.injEq, and_true] at ha
      subst ha
      obtain ⟨u, hu', hrun⟩ := slen_run (w := w) hu _ s h1 oper.type
      have hav : (args.map ρ)[0]? = some (ρ x) := by
        have : args = #[x] := Array.toList_inj.1 (by simpa using hargs)
        subst this; simp
      refine ⟨u, hu', fun w' _ => ?_⟩
      rw [hx, len_eq ht hav]
      simp only [Sem.run_bind, hrun w', Result.andThen_ok, Sem.run_pure]
    · rename_i x e hargs hu
      simp only [Option.some.injEq, Prod.mk.injEq] at h
      obtain ⟨rfl, rfl⟩ := h
      obtain ⟨t, ht, hu⟩ := hty hu
      obtain ⟨es, rfl, rfl⟩ := inv_len hv
      obtain ⟨a, ha, h1⟩ := reps1 hr
      simp only [List.map_cons, List.map_nil, List.cons.injEq, and_true] at ha
      subst ha
      obtain ⟨u, hu', hrun⟩ := len_run (w := w) hu _ es h1 oper.type
      have hav : (args.map ρ)[0]? = some (ρ x) := by
        have : args = #[x] := Array.toList_inj.1 (by simpa using hargs)
        subst this; simp
      refine ⟨u, hu', fun w' _ => ?_⟩
      rw [hx, len_eq ht hav]
      simp only [Sem.run_bind, hrun w', Result.andThen_ok, Sem.run_pure]
    · cases h
  · -- max
    rename_i args tys
    simp only [Option.some.injEq, Prod.mk.injEq] at h
    obtain ⟨rfl, rfl⟩ := h
    have hm := inv_mx hv
    have hx : ∀ w', (execOp ρ oper).run P w' = (do pure (.value (← Builtin.max_ tys oper.type (args.map ρ))) : Sem Next).run P w' := fun w' => by simp [execOp, hop, resolve, invoke, builtin]
    cases hl : args.toList.map ρ with
    | nil =>
      rw [hl] at hr
      have : vs = [] := List.eq_nil_of_length_eq_zero (by simpa using hr.1.symm)
      subst this; simp [maxV] at hm
    | cons a r =>
      rw [hl] at hr
      obtain ⟨u, hu, hrun⟩ := max_run (P := P) r a vs v hr hm
      refine ⟨u, hu, fun w' _ => ?_⟩
      rw [hx]
      simp [Builtin.max_, hl, hrun w']
  · -- min
    rename_i args tys
    simp only [Option.some.injEq, Prod.mk.injEq] at h
    obtain ⟨rfl, rfl⟩ := h
    have hm := inv_mn hv
    have hx : ∀ w', (execOp ρ oper).run P w' = (do pure (.value (← Builtin.min_ tys oper.type (args.map ρ))) : Sem Next).run P w' := fun w' => by simp [execOp, hop, resolve, invoke, builtin]
    cases hl : args.toList.map ρ with
    | nil =>
      rw [hl] at hr
      have : vs = [] := List.eq_nil_of_length_eq_zero (by simpa using hr.1.symm)
      subst this; simp [minV] at hm
    | cons a r =>
      rw [hl] at hr
      obtain ⟨u, hu, hrun⟩ := min_run (P := P) r a vs v hr hm
      refine ⟨u, hu, fun w' _ => ?_⟩
      rw [hx]
      simp [Builtin.min_, hl, hrun w']
  · cases h
end
end Go.VM
/-
  Calls, and slice literals. No program is named here.
-/
namespace Go.VM
open Go.RowKit
variable [Glob]

def Outc (P : Program) (r : Result Next) (K : Value → World → Prop) : Prop := match r with
  | .ok (.value v) w' => K v w'
  | .ok .skip w' => K undef w'
  | .ok (.enter f args) w' => Calls P f args w' fun e w'' => ∃ v, e = .returned v ∧ K v w''
  | _ => False

theorem Outc.wp {P : Program} {o : Oper} {a : Act} {w : World} {next : Act → World → Prop} {Q : Exit → Act → World → Prop}
    (h : Outc P ((execOp a.eval o).run P w) fun v w' => next (a.put o.dst v) w') : o.wp P a w next Q := by
  unfold Oper.wp
  generalize (execOp a.eval o).run P w = r at h
  unfold Outc at h
  split at h
  · exact h
  · exact h
  · exact h.mono fun e w'' ⟨v, he, hk⟩ => by subst he; exact hk
  · exact h.elim

def All (w : World) : Nat → Prop := fun b => b < w.heap.size
theorem All.below {w w' : World} {B : Nat} (hb : Below B w w') : ∀ b, All w b → All w' b := fun _ h => Nat.lt_of_lt_of_le h hb.size

section
variable {P : Program} {S : Nat → Prop} {w : World}

theorem callFunc_run {f : FuncId} (hf : okFn P f = true) (args : Array Value) (w' : World) : (callFunc f args).run P w' = .ok (.enter f args) w' := by
  unfold okFn at hf
  cases h : P.funcs[f]? with
  | none => rw [h] at hf; cases hf
  | some fn =>
    rw [h] at hf
    simp only [Bool.and_eq_true, bne_iff_ne, ne_eq] at hf
    obtain ⟨c, hc⟩ := Option.isSome_iff_exists.1 hf.2
    simp [callFunc, h, hf.1, hc]

theorem call_enter {o : Orc} (ho : SoundO P o) {oper : Oper} {ρ : Operand → Value} (hρ : ∀ f, ρ (.func f) = .func (.func f) #[] #[]) {f : FuncId} {args : Array Operand} {tys : Array TypeId} (hop : oper.op = .call { callee := .value (.func f), args := args, argTypes := tys })
    {zs : List V} {y : V} (hy : o f zs = some y) (w' : World) : (execOp ρ oper).run P w' = .ok (.enter f (args.map ρ)) w' := by
  have hk := (ho.2 f zs y hy).1
  simp [execOp, hop, resolve, hρ, Deferred.ofValue, invoke, callFunc_run hk]

theorem callm_enter {oper : Oper} {ρ : Operand → Value} (hρ : ∀ f, ρ (.func f) = .func (.func f) #[] #[]) {f : FuncId} {args : Array Operand} {tys : Array TypeId} (hop : oper.op = .call { callee := .value (.func f), args := args, argTypes := tys })
    (hk : okFn P f = true) (w' : World) : (execOp ρ oper).run P w' = .ok (.enter f (args.map ρ)) w' := by
  simp [execOp, hop, resolve, hρ, Deferred.ofValue, invoke, callFunc_run hk]

theorem callv_enter {o : Orc} (ho : SoundO P o) {oper : Oper} {ρ : Operand → Value} {x : Operand} {args : Array Operand} {tys : Array TypeId} (hop : oper.op = .call { callee := .value x, args := args, argTypes := tys })
    {vs : List V} {y : V} (hr : Reps S w (ρ x :: args.toList.map ρ) vs) (hy : callV o vs = some y) :
    ∃ f us zs, o f zs = some y ∧ Reps S w us zs ∧ ∀ w' : World, (execOp ρ oper).run P w' = .ok (.enter f us.toArray) w' := by
  match vs, hr, hy with
  | [], _, hy => simp [callV] at hy
  | v :: vs, hr, hy =>
    have h1 := hr.head
    have h2 := hr.tail
    cases v <;> simp only [callV, reduceCtorEq] at hy
    rename_i fn xs ys
    cases fn <;> simp only [reduceCtorEq] at hy
    rename_i f
    generalize hxv : ρ x = xv at h1
    cases h1 with
    | f _ fs cs _ _ hx' hy' hf hc =>
      have r1 : Reps S w fs.toList xs := ⟨by simpa using hx', fun j u x hu hx => hf j u x (by simpa using hu) hx⟩
      have r2 : Reps S w cs.toList ys := ⟨by simpa using hy', fun j u x hu hx => hc j u x (by simpa using hu) hx⟩
      have hk := (ho.2 f _ y hy).1
      refine ⟨f, fs.toList ++ args.toList.map ρ ++ cs.toList, _, hy, (r1.append h2).append r2, fun w' => ?_⟩
      simp [execOp, hop, resolve, hxv, Deferred.ofValue, invoke, callFunc_run hk]

theorem Res1.frz {base : Nat} {v : Value} {y : V} (h : Res1 P S w base v y) {S' : Nat → Prop} (hS : ∀ b, S b → S' b) (hg : ∀ b, base ≤ b → b < w.heap.size → S' b) : Rep S' w v (frz y) := by
  cases y with
  | ow e es =>
    refine h.1.frz hS fun g hg' => ?_
    obtain ⟨vs, ⟨_, hv⟩, _⟩ := h.1
    rcases hv with ⟨rfl, _⟩ | ⟨g', cap, cur, rfl, hb, hh, _⟩
    · simp [blkOf] at hg'
    · simp only [blkOf, Option.some.injEq] at hg'
      subst hg'
      exact hg _ hb (Array.getElem?_eq_some_iff.1 hh).1
  | bx cs =>
    refine h.1.frz hS fun g hg' => ?_
    obtain ⟨g', vs, ty, rfl, hb, hh, _⟩ := h.1
    simp only [blkOf, Option.some.injEq] at hg'
    subst hg'
    exact hg _ hb (Array.getElem?_eq_some_iff.1 hh).1
  | mp ks vs =>
    obtain ⟨⟨g, es, c, rfl, _⟩, _⟩ := h
    exact .um _
  | al n => exact h.elim
  | pe a b c d => exact h.elim
  | pb a b c => exact h.elim
  | t ys => exact h.elim
  | ud => exact h.elim
  | _ => exact Rep.mono h hS

theorem Res.frzt {base : Nat} {v : Value} {y : V} (h : Res P S w base v y) {S' : Nat → Prop} (hS : ∀ b, S b → S' b) (hg : ∀ b, base ≤ b → b < w.heap.size → S' b) : Rep S' w v (frzt y) := by
  cases y with
  | t ys =>
    obtain ⟨us, rfl, hl, hh, _⟩ := h
    refine .t _ _ (by simpa using hl) fun j u x hu hx => ?_
    rw [List.getElem?_map] at hx
    cases hy : ys[j]? with
    | none => rw [hy] at hx; cases hx
    | some y =>
      rw [hy] at hx
      simp only [Option.map_some, Option.some.injEq] at hx
      subst hx
      exact (hh j u y (by simpa using hu) hy).frz hS hg
  | ow e es => exact Res1.frz (P := P) (y := .ow e es) h hS hg
  | bx cs => exact Res1.frz (P := P) (y := .bx cs) h hS hg
  | mp ks vs => exact Res1.frz (P := P) (y := .mp ks vs) h hS hg
  | al n => exact h.elim
  | pe a b c d => exact h.elim
  | pb a b c => exact h.elim
  | ud => exact h.elim
  | _ => exact Rep.mono h hS
end
end Go.VM
