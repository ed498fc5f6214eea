/-
  Inversions: what the data must be where a quiet operation gives something. No program is named here.
-/
import Derived.Test.YtonibcnbcnibeaaVm6d
namespace Go.VM
section
variable {o : Orc} {vs : List V} {v : V}
theorem inv_mv (h : opQ o .mv vs = some v) : ∃ x, vs = [x] ∧ v = x := by
  match vs, h with
  | [x], h => simp [opQ] at h; exact ⟨x, rfl, h.symm⟩
  | [], h => simp [opQ] at h
  | _ :: _ :: _, h => simp [opQ] at h
theorem inv_bin {op : BinOp} (h : opQ o (.bin op) vs = some v) : ∃ x y, vs = [x, y] ∧ binV op x y = some v := by
  match vs, h with
  | [x, y], h => exact ⟨x, y, rfl, h⟩
  | [], h => simp [opQ] at h
  | [_], h => simp [opQ] at h
  | _ :: _ :: _ :: _, h => simp [opQ] at h
theorem inv_binb {op : BinOp} (h : opQ o (.binb op) vs = some v) : ∃ x y, vs = [x, y] ∧ binbV op x y = some v := by
  match vs, h with
  | [x, y], h => exact ⟨x, y, rfl, h⟩
  | [], h => simp [opQ] at h
  | [_], h => simp [opQ] at h
  | _ :: _ :: _ :: _, h => simp [opQ] at h
theorem inv_un {op : UnOp} (h : opQ o (.un op) vs = some v) : ∃ x, vs = [x] ∧ unV op x = some v := by
  match vs, h with
  | [x], h => exact ⟨x, rfl, h⟩
  | [], h => simp [opQ] at h
  | _ :: _ :: _, h => simp [opQ] at h
theorem inv_eqa {neg : Bool} {ks : List Nat} (h : opQ o (.eqa neg ks) vs = some v) : ∃ xs ys r, vs = [.a xs, .a ys] ∧ eqCells ks xs ys = some r ∧ v = .b (if neg then !r else r) := by
  match vs, h with
  | [], h => simp [opQ] at h
  | [_], h => simp [opQ] at h
  | _ :: _ :: _ :: _, h => simp [opQ] at h
  | [x, y], h =>
    cases x <;> cases y <;> simp only [opQ, reduceCtorEq] at h
    rename_i xs ys
    cases hr : eqCells ks xs ys with
    | none => rw [hr] at h; cases h
    | some r => rw [hr] at h; exact ⟨xs, ys, r, rfl, hr, by simpa using h.symm⟩
theorem inv_slen (h : opQ o .slen vs = some v) : ∃ s, vs = [.s s] ∧ v = .i .i64 s.length := by
  match vs, h with
  | [], h => simp [opQ] at h
  | _ :: _ :: _, h => simp [opQ] at h
  | [x], h =>
    cases x <;> simp only [opQ, reduceCtorEq] at h
    rename_i s; cases h; exact ⟨s, rfl, rfl⟩
theorem inv_len (h : opQ o .len vs = some v) : ∃ es, vs = [.l es] ∧ v = .i .i64 es.length := by
  match vs, h with
  | [], h => simp [opQ] at h
  | _ :: _ :: _, h => simp [opQ] at h
  | [x], h =>
    cases x <;> simp only [opQ, reduceCtorEq] at h
    rename_i es; cases h; exact ⟨es, rfl, rfl⟩
theorem inv_fld {off n : Nat} {ag : Bool} (h : opQ o (.fld off n ag) vs = some v) : ∃ cs r, vs = [.a cs] ∧ sub cs off n = some r ∧ (if ag = true then some (V.a r) else r[0]?) = some v := by
  match vs, h with
  | [], h => simp [opQ] at h
  | _ :: _ :: _, h => simp [opQ] at h
  | [x], h =>
    cases x <;> simp only [opQ, reduceCtorEq] at h
    rename_i cs; cases hs : sub cs off n with
    | none => rw [hs] at h; cases h
    | some r => rw [hs] at h; exact ⟨cs, r, rfl, hs, h⟩
theorem inv_fa {off n : Nat} (h : opQ o (.fa off n) vs = some v) : ∃ cs r, vs = [.r cs] ∧ sub cs off n = some r ∧ v = .r r := by
  match vs, h with
  | [], h => simp [opQ] at h
  | _ :: _ :: _, h => simp [opQ] at h
  | [x], h =>
    cases x <;> simp only [opQ, reduceCtorEq] at h
    rename_i cs; cases hs : sub cs off n with
    | none => rw [hs] at h; cases h
    | some r => rw [hs] at h; exact ⟨cs, r, rfl, hs, by simpa using h.symm⟩
theorem inv_ld {n : Nat} {ag : Bool} (h : opQ o (.ld n ag) vs = some v) : ∃ cs, vs = [.r cs] ∧ cs.length = n ∧ (if ag = true then some (V.a cs) else cs[0]?) = some v := by
  match vs, h with
  | [], h => simp [opQ] at h
  | _ :: _ :: _, h => simp [opQ] at h
  | [x], h =>
    cases x <;> simp only [opQ, reduceCtorEq] at h
    rename_i cs; split at h
    · exact ⟨cs, rfl, ‹_›, h⟩
    · cases h
theorem inv_cnv {k : IntKind} (h : opQ o (.cnv k) vs = some v) : ∃ k0 m, vs = [.i k0 m] ∧ v = .i k (k.wrap m) := by
  match vs, h with
  | [], h => simp [opQ] at h
  | _ :: _ :: _, h => simp [opQ] at h
  | [x], h =>
    cases x <;> simp only [opQ, reduceCtorEq] at h
    rename_i k0 m; cases h; exact ⟨k0, m, rfl, rfl⟩
theorem inv_ext {i : Nat} (h : opQ o (.ext i) vs = some v) : ∃ ys, vs = [.t ys] ∧ ys[i]? = some v := by
  match vs, h with
  | [], h => simp [opQ] at h
  | _ :: _ :: _, h => simp [opQ] at h
  | [x], h =>
    cases x <;> simp only [opQ, reduceCtorEq] at h
    rename_i ys; exact ⟨ys, rfl, h⟩
theorem inv_idx (h : opQ o .idx vs = some v) : ∃ s k n c, vs = [.s s, .i k n] ∧ 0 ≤ n ∧ s[n.toNat]? = some c ∧ v = .i .u8 c.toNat := by
  match vs, h with
  | [], h => simp [opQ] at h
  | [x], h => cases x <;> simp [opQ] at h
  | x :: _ :: _ :: _, h => cases x <;> simp [opQ] at h
  | [x, y], h =>
    cases x <;> cases y <;> simp only [opQ, reduceCtorEq] at h
    rename_i s k n; split at h
    · cases hc : s[n.toNat]? with
      | none => rw [hc] at h; cases h
      | some c => rw [hc] at h; exact ⟨s, k, n, c, rfl, ‹_›, hc, by simpa using h.symm⟩
    · cases h
theorem inv_ix {k : Nat} (h : opQ o (.ix k) vs = some v) : ∃ es kk n e, vs = [.l es, .i kk n] ∧ 0 ≤ n ∧ es[n.toNat]? = some e ∧ e.cells.length = k ∧ v = .r e.cells := by
  match vs, h with
  | [], h => simp [opQ] at h
  | [x], h => cases x <;> simp [opQ] at h
  | x :: _ :: _ :: _, h => cases x <;> simp [opQ] at h
  | [x, y], h =>
    cases x <;> cases y <;> simp only [opQ, reduceCtorEq] at h
    rename_i es kk n; split at h
    · cases hc : es[n.toNat]? with
      | none => rw [hc] at h; cases h
      | some e =>
        rw [hc] at h
        simp only [Option.bind_some] at h
        split at h
        · exact ⟨es, kk, n, e, rfl, ‹_›, hc, ‹_›, by simpa using h.symm⟩
        · cases h
    · cases h
theorem inv_slcs {lo hi : Bool} (h : opQ o (.slcs lo hi) vs = some v) : ∃ s bs p, vs = .s s :: bs ∧ bnds s.length lo hi bs = some p ∧ v = .s ((s.take p.2).drop p.1) := by
  match vs, h with
  | [], h => simp [opQ] at h
  | x :: bs, h =>
    cases x <;> simp only [opQ, reduceCtorEq] at h
    rename_i s
    cases hb : bnds s.length lo hi bs with
    | none => rw [hb] at h; cases h
    | some p => rw [hb] at h; exact ⟨s, bs, p, rfl, hb, by simpa using h.symm⟩
theorem inv_slc {k : Nat} {lo hi : Bool} (h : opQ o (.slc k lo hi) vs = some v) : ∃ es bs p, vs = .l es :: bs ∧ es.all (fun x => x.cells.length == k) = true ∧ bnds es.length lo hi bs = some p ∧ v = .l ((es.take p.2).drop p.1) := by
  match vs, h with
  | [], h => simp [opQ] at h
  | x :: bs, h =>
    cases x <;> simp only [opQ, reduceCtorEq] at h
    rename_i es
    split at h
    · cases hb : bnds es.length lo hi bs with
      | none => rw [hb] at h; cases h
      | some p => rw [hb] at h; exact ⟨es, bs, p, rfl, ‹_›, hb, by simpa using h.symm⟩
    · cases h
theorem inv_bld {z : List V} {ps : List (Nat × Nat)} (h : opQ o (.bld z ps) vs = some v) : ∃ r, bldV z ps vs = some r ∧ v = .a r := by
  have h' : (bldV z ps vs).map V.a = some v := by
    match vs, h with
    | [], h => simpa [opQ] using h
    | [x], h => cases x <;> simpa [opQ] using h
    | [x, y], h => cases x <;> cases y <;> simpa [opQ] using h
    | x :: y :: _ :: _, h => cases x <;> simpa [opQ] using h
  cases hb : bldV z ps vs with
  | none => rw [hb] at h'; cases h'
  | some r => rw [hb] at h'; exact ⟨r, rfl, by simpa using h'.symm⟩
theorem inv_mx (h : opQ o .mx vs = some v) : maxV vs = some v := by
  match vs, h with
  | [], h => simpa [opQ] using h
  | [x], h => cases x <;> simpa [opQ] using h
  | [x, y], h => cases x <;> cases y <;> simpa [opQ] using h
  | x :: y :: _ :: _, h => cases x <;> simpa [opQ] using h
theorem inv_mn (h : opQ o .mn vs = some v) : minV vs = some v := by
  match vs, h with
  | [], h => simpa [opQ] using h
  | [x], h => cases x <;> simpa [opQ] using h
  | [x, y], h => cases x <;> cases y <;> simpa [opQ] using h
  | x :: y :: _ :: _, h => cases x <;> simpa [opQ] using h
end
end Go.VM
