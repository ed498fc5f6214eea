/-
  A journal that is read as plain data, as its cells lie.
-/
import Derived.Test.YtggmlfmhinafhaaSrt
namespace Go.Proofs.Ytggmlfmhinafhaa
open Go.RowKit Go.VM
def legOf (x : LegR) : Leg := ⟨x.1, x.2.1, x.2.2.data.toList⟩
def entOf (e : Ev) : Entry := ⟨e.i0, e.i1, e.i2, e.i3, e.i4, e.i5, e.s6.data.toList, e.s7.data.toList, e.legs.map legOf, e.u9⟩
section
variable {S : Nat → Prop} {w : World}
theorem spot_none {a : Addr} {u : Value} (h : w.cell? a = some u) : a.spot = none := by
  unfold World.cell? at h
  split at h
  · split at h
    · cases h
    · rename_i hs; simpa using hs
  · cases h
theorem legs_lie : ∀ (l : List Leg) (vs : List Value) (b o : Nat), Reps S w vs (flatc (encL Leg.v l)) → (∀ (j : Nat) u, vs[j]? = some u → w.cell? ⟨b, o + j, none⟩ = some u) →
    ∃ xs : List LegR, xs.map legOf = l ∧ ∀ k x, xs[k]? = some x → LegAt w b (o + k * 3) x
  | [], vs, b, o, _, _ => ⟨[], rfl, by simp⟩
  | x :: r, vs, b, o, hr, hu => by
    rw [encL_cons, flatc_cons] at hr
    match vs, hr, hu with
    | a :: c :: d :: vs', hr, hu =>
      have h0 : Rep S w a (.i .i64 x.account) := hr.2 0 a _ rfl rfl
      have h1 : Rep S w c (.i .i64 x.amount) := hr.2 1 c _ rfl rfl
      have h2 : Rep S w d (.s x.currency) := hr.2 2 d _ rfl rfl
      cases h0; cases h1
      obtain ⟨s, rfl, hs⟩ : ∃ s : ByteArray, d = .string s ∧ s.data.toList = x.currency := by
        generalize hq : x.currency = q at h2
        cases h2
        exact ⟨_, rfl, rfl⟩
      have htl : Reps S w vs' (flatc (encL Leg.v r)) := hr.tail.tail.tail
      obtain ⟨xs, hx1, hx2⟩ := legs_lie r vs' b (o + 3) htl fun j u hj => by
        have := hu (j + 3) u hj
        rw [show o + 3 + j = o + (j + 3) by omega]
        exact this
      refine ⟨(x.account, x.amount, s) :: xs, by simp [hx1, legOf, hs], fun k y hk => ?_⟩
      cases k with
      | zero =>
        simp only [List.getElem?_cons_zero, Option.some.injEq] at hk
        subst hk
        exact ⟨hu 0 _ rfl, hu 1 _ rfl, hu 2 _ rfl⟩
      | succ k =>
        simp only [List.getElem?_cons_succ] at hk
        have := hx2 k y hk
        rw [show o + (k + 1) * 3 = o + 3 + k * 3 by omega]
        exact this
    | [], hr, _ => exact absurd hr.1 (by simp [V.cells])
    | [_], hr, _ => exact absurd hr.1 (by simp [V.cells])
    | [_, _], hr, _ => exact absurd hr.1 (by simp [V.cells])
theorem legs_at {u : Value} {l : List Leg} (h : Rep S w u (.l (encL Leg.v l))) : ∃ (la : Option Addr) (c : Nat) (xs : List LegR), u = .slice la xs.length c ∧ xs.map legOf = l ∧ LegsAt S w la xs := by
  obtain ⟨a, c, k, vs, rfl, hk, h1, hr, hc, hd⟩ := h.slice
  rcases hd with he | ⟨ad, rfl, hs, hu⟩
  · have hl : l = [] := by
      cases l with
      | nil => rfl
      | cons x r => simp [encL_cons] at he
    subst hl
    exact ⟨a, c, [], by simp [encL], rfl, .inl rfl⟩
  · cases l with
    | nil => exact ⟨some ad, c, [], by simp [encL], rfl, .inl rfl⟩
    | cons x r =>
      have hsp : ad.spot = none := by
        obtain ⟨u0, hu0, _⟩ := hr.getD (j := 0) (x := .i .i64 x.account) rfl
        exact spot_none (hu 0 u0 hu0)
      obtain ⟨b, o, sp⟩ := ad
      simp only at hsp
      subst hsp
      obtain ⟨xs, hx1, hx2⟩ := legs_lie (x :: r) vs b o hr fun j u hj => by
        have := hu j u hj
        unfold Addr.add at this
        split at this
        · rename_i h0; subst h0; exact this
        · exact this
      refine ⟨some ⟨b, o, none⟩, c, xs, ?_, hx1, .inr ⟨b, o, rfl, hs, hx2⟩⟩
      have : xs.length = (x :: r).length := by rw [← hx1]; simp
      rw [this]; simp [encL]
theorem ents_lie : ∀ (l : List Entry) (vs : List Value) (b o : Nat), Reps S w vs (flatc (encL Entry.v l)) → (∀ (j : Nat) u, vs[j]? = some u → w.cell? ⟨b, o + j, none⟩ = some u) →
    ∃ es : List Ev, es.map entOf = l ∧ ∀ k e, es[k]? = some e → EvCells w b (o + k * 10) e ∧ LegsAt S w e.la e.legs
  | [], vs, b, o, _, _ => ⟨[], rfl, by simp⟩
  | x :: r, vs, b, o, hr, hu => by
    rw [encL_cons, flatc_cons] at hr
    have hlen := hr.1
    rw [List.length_append] at hlen
    simp only [V.cells, List.length_cons, List.length_nil, Nat.zero_add, Nat.reduceAdd] at hlen
    match vs, hlen, hr, hu with
    | a0 :: a1 :: a2 :: a3 :: a4 :: a5 :: a6 :: a7 :: a8 :: a9 :: vs', _, hr, hu =>
      have h0 : Rep S w a0 (.i .i64 x.id) := hr.2 0 a0 _ rfl rfl
      have h1 : Rep S w a1 (.i .i64 x.booked) := hr.2 1 a1 _ rfl rfl
      have h2 : Rep S w a2 (.i .i64 x.value) := hr.2 2 a2 _ rfl rfl
      have h3 : Rep S w a3 (.i .i64 x.kind) := hr.2 3 a3 _ rfl rfl
      have h4 : Rep S w a4 (.i .i64 x.auth) := hr.2 4 a4 _ rfl rfl
      have h5 : Rep S w a5 (.i .i64 x.period) := hr.2 5 a5 _ rfl rfl
      have h6 : Rep S w a6 (.s x.key) := hr.2 6 a6 _ rfl rfl
      have h7 : Rep S w a7 (.s x.text) := hr.2 7 a7 _ rfl rfl
      have h8 : Rep S w a8 (.l (encL Leg.v x.legs)) := hr.2 8 a8 _ rfl rfl
      have h9 : Rep S w a9 (.i .u64 x.chain) := hr.2 9 a9 _ rfl rfl
      cases h0; cases h1; cases h2; cases h3; cases h4; cases h5; cases h9
      obtain ⟨s6, rfl, hs6⟩ : ∃ s : ByteArray, a6 = .string s ∧ s.data.toList = x.key := by
        generalize hq : x.key = q at h6
        cases h6
        exact ⟨_, rfl, rfl⟩
      obtain ⟨s7, rfl, hs7⟩ : ∃ s : ByteArray, a7 = .string s ∧ s.data.toList = x.text := by
        generalize hq : x.text = q at h7
        cases h7
        exact ⟨_, rfl, rfl⟩
      obtain ⟨la, c, xs, rfl, hx1, hx2⟩ := legs_at h8
      have htl : Reps S w vs' (flatc (encL Entry.v r)) := hr.tail.tail.tail.tail.tail.tail.tail.tail.tail.tail
      obtain ⟨es, he1, he2⟩ := ents_lie r vs' b (o + 10) htl fun j u hj => by
        have := hu (j + 10) u hj
        rw [show o + 10 + j = o + (j + 10) by omega]
        exact this
      refine ⟨⟨x.id, x.booked, x.value, x.kind, x.auth, x.period, s6, s7, la, c, xs, x.chain⟩ :: es, by simp [he1, entOf, hs6, hs7, hx1], fun k e hk => ?_⟩
      cases k with
      | zero =>
        simp only [List.getElem?_cons_zero, Option.some.injEq] at hk
        subst hk
        exact ⟨⟨hu 0 _ rfl, hu 1 _ rfl, hu 2 _ rfl, hu 3 _ rfl, hu 4 _ rfl, hu 5 _ rfl, hu 6 _ rfl, hu 7 _ rfl, hu 8 _ rfl, hu 9 _ rfl⟩, hx2⟩
      | succ k =>
        simp only [List.getElem?_cons_succ] at hk
        have := he2 k e hk
        rw [show o + (k + 1) * 10 = o + 10 + k * 10 by omega]
        exact this
theorem ents_at {u : Value} {l : List Entry} (h : Rep S w u (.l (encL Entry.v l))) : ∃ (a : Option Addr) (c : Nat) (es : List Ev), u = .slice a es.length c ∧ es.map entOf = l ∧ EntsAt S w a es := by
  obtain ⟨a, c, k, vs, rfl, hk, h1, hr, hc, hd⟩ := h.slice
  rcases hd with he | ⟨ad, rfl, hs, hu⟩
  · have hl : l = [] := by
      cases l with
      | nil => rfl
      | cons x r => simp [encL_cons] at he
    subst hl
    exact ⟨a, c, [], by simp [encL], rfl, .inl rfl⟩
  · cases l with
    | nil => exact ⟨some ad, c, [], by simp [encL], rfl, .inl rfl⟩
    | cons x r =>
      have hsp : ad.spot = none := by
        obtain ⟨u0, hu0, _⟩ := hr.getD (j := 0) (x := .i .i64 x.id) rfl
        exact spot_none (hu 0 u0 hu0)
      obtain ⟨b, o, sp⟩ := ad
      simp only at hsp
      subst hsp
      obtain ⟨es, hx1, hx2⟩ := ents_lie (x :: r) vs b o hr fun j u hj => by
        have := hu j u hj
        unfold Addr.add at this
        split at this
        · rename_i h0; subst h0; exact this
        · exact this
      refine ⟨some ⟨b, o, none⟩, c, es, ?_, hx1, .inr ⟨b, o, rfl, hs, hx2⟩⟩
      have : es.length = (x :: r).length := by rw [← hx1]; simp
      rw [this]; simp [encL]
end
end Go.Proofs.Ytggmlfmhinafhaa
