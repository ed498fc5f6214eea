/-
  A journal that is read as plain data, as its cells lie.
-/
import Derived.Test.YtdlpbedneamebaaGreatDoorIter
import Derived.Test.YtdlpbedneamebaaGreatDoorTypes
import Derived.Test.YtdlpbedneamebaaGreatDoorMut
import Derived.Lib.AppendIntMem
import Derived.Lib.AppendStr
import Derived.Lib.ItoaLen
import Derived.Lib.Slices
import Derived.Lib.Hide
import Derived.Laws.IdiomStrings
import Derived.OwnWalk
import Derived.WalkKit
import Derived.BigCall
namespace Go.Proofs.YtdlpbedneamebaaGreatDoor
open Go.RowKit Go.VM
abbrev LegR := Int × Int × ByteArray
def legOf (x : LegR) : Leg := ⟨x.1, x.2.1, x.2.2.data.toList⟩
def entOf (e : Ev) : Entry := ⟨e.i0, e.i1, e.i2, e.i3, e.i4, e.i5, e.s6.data.toList, e.s7.data.toList, e.legs.map legOf, e.u9⟩
section
variable {S : Nat → Prop} {w : World}
theorem spot_none {a : Addr} {u : Value} (h : w.cell? a = some u) : a.spot = none := by
  unfold World.cell? at h
  split at h
  · split at h
    · cases h
    · rename_i hs; simpa using hs
  · cases h
theorem legs_lie : ∀ (l : List Leg) (vs : List Value) (b o : Nat), Reps S w vs (flatc (encL Leg.v l)) → (∀ (j : Nat) u, vs[j]? = some u → w.cell? ⟨b, o + j, none⟩ = some u) →
    ∃ xs : List LegR, xs.map legOf = l ∧ ∀ k x, xs[k]? = some x → LegAt w b (o + k * 3) x
  | [], vs, b, o, _, _ => ⟨[], rfl, by simp⟩
  | x :: r, vs, b, o, hr, hu => by
    rw [encL_cons, flatc_cons] at hr
    match vs, hr, hu with
    | a :: c :: d :: vs', hr, hu =>
      have h0 : Rep S w a (.i .i64 x.account) := hr.2 0 a _ rfl rfl
      have h1 : Rep S w c (.i .i64 x.amount) := hr.2 1 c _ rfl rfl
      have h2 : Rep S w d (.s x.currency) := hr.2 2 d _ rfl rfl
      cases h0; cases h1
      obtain ⟨s, rfl, hs⟩ : ∃ s : ByteArray, d = .string s ∧ s.data.toList = x.currency := by
        generalize hq : x.currency = q at h2
        cases h2
        exact ⟨_, rfl, rfl⟩
      have htl : Reps S w vs' (flatc (encL Leg.v r)) := hr.tail.tail.tail
      obtain ⟨xs, hx1, hx2⟩ := legs_lie r vs' b (o + 3) htl fun j u hj => by
        have := hu (j + 3) u hj
        rw [show o + 3 + j = o + (j + 3) by omega]
        exact this
      refine ⟨(x.account, x.amount, s) :: xs, by simp [hx1, legOf, hs], fun k y hk => ?_⟩
      cases k with
      | zero =>
        simp only [List.getElem?_cons_zero, Option.some.injEq] at hk
        subst hk
        exact ⟨hu 0 _ rfl, hu 1 _ rfl, hu 2 _ rfl⟩
      | succ k =>
        simp only [List.getElem?_cons_succ] at hk
        have := hx2 k y hk
        rw [show o + (k + 1) * 3 = o + 3 + k * 3 by omega]
        exact this
    | [], hr, _ => exact absurd hr.1 (by simp [V.cells])
    | [_], hr, _ => exact absurd hr.1 (by simp [V.cells])
    | [_, _], hr, _ => exact absurd hr.1 (by simp [V.cells])
theorem legs_at {u : Value} {l : List Leg} (h : Rep S w u (.l (encL Leg.v l))) : ∃ (la : Option Addr) (c : Nat) (xs : List LegR), u = .slice la xs.length c ∧ xs.map legOf = l ∧ LegsAt S w la xs := by
  obtain ⟨a, c, k, vs, rfl, hk, h1, hr, hc, hd⟩ := h.slice
  rcases hd with he | ⟨ad, rfl, hs, hu⟩
  · have hl : l = [] := by
      cases l with
      | nil => rfl
      | cons x r => simp [encL_cons] at he
    subst hl
    exact ⟨a, c, [], by simp [encL], rfl, .inl rfl⟩
  · cases l with
    | nil => exact ⟨some ad, c, [], by simp [encL], rfl, .inl rfl⟩
    | cons x r =>
      have hsp : ad.spot = none := by
        obtain ⟨u0, hu0, _⟩ := hr.getD (j := 0) (x := .i .i64 x.account) rfl
        exact spot_none (hu 0 u0 hu0)
      obtain ⟨b, o, sp⟩ := ad
      simp only at hsp
      subst hsp
      obtain ⟨xs, hx1, hx2⟩ := legs_lie (x :: r) vs b o hr fun j u hj => by
        have := hu j u hj
        unfold Addr.add at this
        split at this
        · rename_i h0; subst h0; exact this
        · exact this
      refine ⟨some ⟨b, o, none⟩, c, xs, ?_, hx1, .inr ⟨b, o, rfl, hs, hx2⟩⟩
      have : xs.length = (x :: r).length := by rw [← hx1]; simp
      rw [this]; simp [encL]
theorem ents_lie : ∀ (l : List Entry) (vs : List Value) (b o : Nat), Reps S w vs (flatc (encL Entry.v l)) → (∀ (j : Nat) u, vs[j]? = some u → w.cell? ⟨b, o + j, none⟩ = some u) →
    ∃ es : List Ev, es.map entOf = l ∧ ∀ k e, es[k]? = some e → EvCells w b (o + k * 10) e ∧ LegsAt S w e.la e.legs
  | [], vs, b, o, _, _ => ⟨[], rfl, by simp⟩
  | x :: r, vs, b, o, hr, hu => by
    rw [encL_cons, flatc_cons] at hr
    have hlen := hr.1
    rw [List.length_append] at hlen
    simp only [V.cells, List.length_cons, List.length_nil, Nat.zero_add, Nat.reduceAdd] at hlen
    match vs, hlen, hr, hu with
    | a0 :: a1 :: a2 :: a3 :: a4 :: a5 :: a6 :: a7 :: a8 :: a9 :: vs', _, hr, hu =>
      have h0 : Rep S w a0 (.i .i64 x.id) := hr.2 0 a0 _ rfl rfl
      have h1 : Rep S w a1 (.i .i64 x.booked) := hr.2 1 a1 _ rfl rfl
      have h2 : Rep S w a2 (.i .i64 x.value) := hr.2 2 a2 _ rfl rfl
      have h3 : Rep S w a3 (.i .i64 x.kind) := hr.2 3 a3 _ rfl rfl
      have h4 : Rep S w a4 (.i .i64 x.auth) := hr.2 4 a4 _ rfl rfl
      have h5 : Rep S w a5 (.i .i64 x.period) := hr.2 5 a5 _ rfl rfl
      have h6 : Rep S w a6 (.s x.key) := hr.2 6 a6 _ rfl rfl
      have h7 : Rep S w a7 (.s x.text) := hr.2 7 a7 _ rfl rfl
      have h8 : Rep S w a8 (.l (encL Leg.v x.legs)) := hr.2 8 a8 _ rfl rfl
      have h9 : Rep S w a9 (.i .u64 x.chain) := hr.2 9 a9 _ rfl rfl
      cases h0; cases h1; cases h2; cases h3; cases h4; cases h5; cases h9
      obtain ⟨s6, rfl, hs6⟩ : ∃ s : ByteArray, a6 = .string s ∧ s.data.toList = x.key := by
        generalize hq : x.key = q at h6
        cases h6
        exact ⟨_, rfl, rfl⟩
      obtain ⟨s7, rfl, hs7⟩ : ∃ s : ByteArray, a7 = .string s ∧ s.data.toList = x.text := by
        generalize hq : x.text = q at h7
        cases h7
        exact ⟨_, rfl, rfl⟩
      obtain ⟨la, c, xs, rfl, hx1, hx2⟩ := legs_at h8
      have htl : Reps S w vs' (flatc (encL Entry.v r)) := hr.tail.tail.tail.tail.tail.tail.tail.tail.tail.tail
      obtain ⟨es, he1, he2⟩ := ents_lie r vs' b (o + 10) htl fun j u hj => by
        have := hu (j + 10) u hj
        rw [show o + 10 + j = o + (j + 10) by omega]
        exact this
      refine ⟨⟨x.id, x.booked, x.value, x.kind, x.auth, x.period, s6, s7, la, c, xs, x.chain⟩ :: es, by simp [he1, entOf, hs6, hs7, hx1], fun k e hk => ?_⟩
      cases k with
      | zero =>
        simp only [List.getElem?_cons_zero, Option.some.injEq] at hk
        subst hk
        exact ⟨⟨hu 0 _ rfl, hu 1 _ rfl, hu 2 _ rfl, hu 3 _ rfl, hu 4 _ rfl, hu 5 _ rfl, hu 6 _ rfl, hu 7 _ rfl, hu 8 _ rfl, hu 9 _ rfl⟩, hx2⟩
      | succ k =>
        simp only [List.getElem?_cons_succ] at hk
        have := he2 k e hk
        rw [show o + (k + 1) * 10 = o + 10 + k * 10 by omega]
        exact this
theorem ents_at {u : Value} {l : List Entry} (h : Rep S w u (.l (encL Entry.v l))) : ∃ (a : Option Addr) (c : Nat) (es : List Ev), u = .slice a es.length c ∧ es.map entOf = l ∧ EntsAt S w a es := by
  obtain ⟨a, c, k, vs, rfl, hk, h1, hr, hc, hd⟩ := h.slice
  rcases hd with he | ⟨ad, rfl, hs, hu⟩
  · have hl : l = [] := by
      cases l with
      | nil => rfl
      | cons x r => simp [encL_cons] at he
    subst hl
    exact ⟨a, c, [], by simp [encL], rfl, .inl rfl⟩
  · cases l with
    | nil => exact ⟨some ad, c, [], by simp [encL], rfl, .inl rfl⟩
    | cons x r =>
      have hsp : ad.spot = none := by
        obtain ⟨u0, hu0, _⟩ := hr.getD (j := 0) (x := .i .i64 x.id) rfl
        exact spot_none (hu 0 u0 hu0)
      obtain ⟨b, o, sp⟩ := ad
      simp only at hsp
      subst hsp
      obtain ⟨es, hx1, hx2⟩ := ents_lie (x :: r) vs b o hr fun j u hj => by
        have := hu j u hj
        unfold Addr.add at this
        split at this
        · rename_i h0; subst h0; exact this
        · exact this
      refine ⟨some ⟨b, o, none⟩, c, es, ?_, hx1, .inr ⟨b, o, rfl, hs, hx2⟩⟩
      have : es.length = (x :: r).length := by rw [← hx1]; simp
      rw [this]; simp [encL]
end
abbrev ents (l : List Entry) : List V := encL Entry.v l
def mv (a : Int) (l : List Entry) : List (Entry × Int) := l.flatMap fun e => (e.legs.filter fun x => x.account = a).map fun x => (e, x.amount)
def ofF (a : Int) (l : List Entry) : Int := (mv a l).foldl (fun s x => wrap64 (s - x.2)) 0
def entB (e : Entry) : Bool := decide (e.legs.length ≤ 400)
def jok (l : List Entry) : Bool := decide (l.length ≤ 400) && l.all entB
theorem jok_len {l : List Entry} (h : jok l = true) : l.length ≤ 400 := by
  simp only [jok, Bool.and_eq_true, decide_eq_true_eq] at h; exact h.1
theorem jok_legs {l : List Entry} (h : jok l = true) : ∀ e ∈ l, e.legs.length ≤ 400 := fun e he => by
  simp only [jok, Bool.and_eq_true, List.all_eq_true] at h
  have := h.2 e he
  simpa [entB] using this
def mvE (x : Ev × Int) : Entry × Int := (entOf x.1, x.2)
theorem mvs_map (a : Int) (es : List Ev) : (mvs a es).map mvE = mv a (es.map entOf) := by
  unfold mvs mv
  induction es with
  | nil => rfl
  | cons e es ih =>
    rw [List.flatMap_cons, List.map_append, ih, List.map_cons, List.flatMap_cons]
    congr 1
    unfold evp
    rw [List.map_map, entOf, List.filter_map, List.map_map]
    rfl
theorem of_eq (a : Int) (es : List Ev) : ofM (mvs a es) = ofF a (es.map entOf) := by
  unfold ofF; rw [← mvs_map, List.foldl_map]; rfl
theorem args1 {S : Nat → Prop} {w : World} {vs : List Value} {x : V} (h : Reps S w vs [x]) : ∃ v, vs = [v] ∧ Rep S w v x := by
  match vs, h with
  | [v], h => exact ⟨v, rfl, h.head⟩
  | [], h => exact absurd h.1 (by simp)
  | _ :: _ :: _, h => exact absurd h.1 (by simp)
theorem args2 {S : Nat → Prop} {w : World} {vs : List Value} {x : V} {n : Int} (h : Reps S w vs [x, .i .i64 n]) : ∃ v, vs = [v, .int .i64 n] ∧ Rep S w v x := by
  match vs, h with
  | [v, u], h =>
    have h1 := h.tail.head
    cases h1
    exact ⟨v, rfl, h.head⟩
  | [], h => exact absurd h.1 (by simp)
  | [_], h => exact absurd h.1 (by simp)
  | _ :: _ :: _ :: _, h => exact absurd h.1 (by simp)
theorem journal {S : Nat → Prop} {w : World} {v : Value} {l : List Entry} (hS : ∀ b, S b → b < w.heap.size) (h : Rep S w v (.l (ents l))) (hj : jok l = true) : ∃ (a : Option Addr) (c : Nat) (es : List Ev), v = .slice a es.length c ∧ es.map entOf = l ∧ EntsAt (fun b => b < w.heap.size) w a es ∧ es.length ≤ 400 ∧ (∀ e ∈ es, e.legs.length ≤ 400) := by
  obtain ⟨a, c, es, rfl, he, hE⟩ := ents_at h
  refine ⟨a, c, es, rfl, he, hE.mono hS, ?_, fun e hx => ?_⟩
  · have := jok_len hj
    rw [← he] at this
    simpa using this
  · have := jok_legs hj (entOf e) (by rw [← he]; exact List.mem_map.2 ⟨e, hx, rfl⟩)
    simpa [entOf] using this
theorem pf_flat [Glob] {f : FuncId} {w : World} {S : Nat → Prop} {args : Array Value} {u : Value} {y : V} (hS : ∀ b, S b → b < w.heap.size) (hy : ∀ (w' : World), Res Tryz.prog S w' w.heap.size u y) (h : Calls Tryz.prog f args w fun e w' => e = .returned u ∧ Below w.heap.size w w') :
    Calls Tryz.prog f args w fun e w' => ∃ v, e = .returned v ∧ Below w.heap.size w w' ∧ ∃ S' : Nat → Prop, (∀ b, S b → S' b) ∧ (∀ b, S' b → (S b ∨ w.heap.size ≤ b) ∧ b < w'.heap.size) ∧ Res Tryz.prog S' w' w.heap.size v y :=
  h.mono fun _ w' ⟨he, hb⟩ => ⟨u, he, hb, S, fun _ h => h, fun b h => ⟨.inl h, Nat.lt_of_lt_of_le (hS b h) hb.size⟩, hy w'⟩
theorem of_PF {l : List Entry} {a : Int} (hj : jok l = true) : PF Tryz.prog 12 [.l (ents l), .i .i64 a] (.i .i64 (ofF a l)) := by
  intro S w vs hS _ hr
  obtain ⟨v, rfl, hv⟩ := args2 hr
  obtain ⟨ad, c, es, rfl, he, hE, h1, h2⟩ := journal hS hv hj
  refine pf_flat (u := .int .i64 (ofF a l)) hS (fun w' => .i _ _) ?_
  have h := callsIn_wide.1 (of_in Fence.wide 3 trivial trivial trivial rfl (by omega) ad c a es w (by omega) (fun e he => by have := h2 e he; omega) hE)
  rw [of_eq, he] at h
  exact h
end Go.Proofs.YtdlpbedneamebaaGreatDoor
namespace Go.Proofs.YtdlpbedneamebaaGreatDoor
open Go.VM Go.RowKit Go.Shelf
theorem glob0 : Tryz.prog.globalNamed "internal/strconv.uint64pow10" = some 0 := by kernel_rfl
theorem pow10_len : pow10.length = 20 := by decide
theorem tab_is {S : Nat → Prop} {w : World} (hG : GOK S w) : Lib.TabIs Tryz.prog w "internal/strconv.uint64pow10" .u64 Lib.pow10Tab := by
  obtain ⟨hr, _, hn⟩ := hG (0, pow10) (List.mem_cons_self ..)
  unfold Lib.TabIs World.var?
  rw [glob0]
  simp only [Option.bind_some]
  have hcell : ∀ j, j < 20 → w.cell? ⟨0, j, none⟩ = some (.int .u64 (10 ^ j)) := fun j hj => by
    generalize hp : Value.pointer (some ⟨0, 0, none⟩) = p at hr
    cases hr with
    | r a cs vs hs h1 hl hu h =>
      cases hp
      have hjl : j < vs.length := by rw [hl, pow10_len]; exact hj
      have h2 := hu j vs[j] (List.getElem?_eq_getElem hjl)
      rw [add_zero] at h2
      have h3 := h j vs[j] (.i .u64 (10 ^ j)) (List.getElem?_eq_getElem hjl) (by simp [pow10, hj])
      rw [h2]
      generalize vs[j] = y at h3
      cases h3; rfl
  have h0 := hcell 0 (by decide)
  unfold World.cell? at h0
  cases hh : w.heap[0]? with
  | none => simp [hh] at h0
  | some ob =>
    cases ob with
    | cells cs t fr =>
      simp only [Option.some.injEq]
      have hc : ∀ j, w.cell? ⟨0, j, none⟩ = cs[j]? := fun j => by simp [World.cell?, hh]
      have hsz : cs.size = 20 := by
        have h19 := (hc 19).symm.trans (hcell 19 (by decide))
        have h20 : cs[20]? = none := by rw [← hc]; exact hn
        have := (Array.getElem?_eq_some_iff.1 h19).1
        simp at h20
        omega
      apply Array.ext
      · simp [hsz, Lib.pow10Tab]
      · intro j h1 h2
        have := (hc j).symm.trans (hcell j (by omega))
        rw [Array.getElem?_eq_getElem h1] at this
        simp only [Option.some.injEq] at this
        rw [this]
        simp [Lib.pow10Tab]
    | _ => simp [hh] at h0
theorem itoa_PF {n : Int} (h0 : -9223372036854775808 ≤ n) (h1 : n ≤ 9223372036854775807) : PF Tryz.prog 203 [.i .i64 n] (.s (Lib.itoa n)) := by
  intro S w vs hS hG hr
  obtain ⟨v, rfl, hv⟩ := args1 hr
  cases hv
  refine pf_flat (u := .string ⟨(Lib.itoa n).toArray⟩) hS (fun w' => by
    have : Rep S w' (.string ⟨(Lib.itoa n).toArray⟩) (.s (⟨(Lib.itoa n).toArray⟩ : ByteArray).data.toList) := .s _
    show Rep S w' _ _
    simpa using this) ?_
  refine (Any.strconv_Itoa Tryz.laysM171 n h0 h1 w (tab_is hG)).mono ?_
  rintro e w' ⟨rfl, k, os, rfl⟩
  exact ⟨rfl, Lib.below_grow _ w (Nat.le_refl _) k os⟩
/-! ### Pack -/
def textsOf : List V → Option (List (List UInt8))
  | [] => some []
  | .s x :: r => (textsOf r).map (x :: ·)
  | _ => none
theorem textsOf_eq : ∀ {ts : List V} {l : List (List UInt8)}, textsOf ts = some l → ts = encL V.s l
  | [], l, h => by cases h; rfl
  | x :: r, l, h => by
    unfold textsOf at h
    split at h
    · rename_i he; cases he
    · rename_i y r' he
      cases he
      simp only [Option.map_eq_some_iff] at h
      obtain ⟨t, h1, rfl⟩ := h
      rw [textsOf_eq h1]; rfl
    · cases h
def packed (s : List UInt8) : List UInt8 := Lib.itoa s.length ++ 58 :: s
def packs (l : List (List UInt8)) : List UInt8 := l.flatMap packed
theorem infoByte : (Tryz.prog.info? 5).map (fun i => (i.zero, i.size, i.bytes)) = some (some (.int .u8 0), 1, 1) := by kernel_rfl
def TextsAt (w : World) (a : Option Addr) (l : List ByteArray) : Prop := l = [] ∨ ∃ b o, a = some ⟨b, o, none⟩ ∧ b < w.heap.size ∧ ∀ k s, l[k]? = some s → w.cell? ⟨b, o + k, none⟩ = some (.string s)
def bytesL (l : List ByteArray) : List (List UInt8) := l.map fun s => s.data.toList
theorem appendInt (B n : Nat) (i : Int) (h0 : -9223372036854775808 ≤ i) (h1 : i ≤ 9223372036854775807) (sv : Value) (xs : List Value) (w : World) (hown : w.ownsRow B 5 1 sv n xs) (hBw : B ≤ w.heap.size) (hlim : n + 21 ≤ 140737488355328)
    (htab : Lib.TabBelow Tryz.prog B w "internal/strconv.uint64pow10" .u64 Lib.pow10Tab) :
    Calls Tryz.prog 202 #[sv, .int .i64 i, .int .i64 10] w fun e w' => ∃ v', e = .returned v' ∧ w'.ownsRow B 5 1 v' (n + (Lib.itoa i).length) (xs ++ Lib.byteCells (Lib.itoa i)) ∧ Below B w w' :=
  (Any.strconv_AppendInt_10 Tryz.laysM176 B n i h0 h1 sv xs w hown hBw hlim htab).mono fun _ _ ⟨v, h1, h2, h3, _⟩ => ⟨v, h1, h2, h3⟩
theorem packs_take (l : List ByteArray) (k : Nat) (s : ByteArray) (h : l[k]? = some s) : packs (bytesL (l.take (k + 1))) = packs (bytesL (l.take k)) ++ packed s.data.toList := by
  unfold packs bytesL
  rw [List.take_add_one, h]
  simp
theorem packs_len (l : List ByteArray) (hs : ∀ s ∈ l, s.size ≤ 1000000) : (packs (bytesL l)).length ≤ l.length * 1000030 := by
  induction l with
  | nil => simp [packs, bytesL]
  | cons s l ih =>
    have h1 := ih fun s h => hs s (List.mem_cons_of_mem _ h)
    have h2 := hs s (List.mem_cons_self ..)
    have h3 := Lib.itoa_length_le (s.data.toList.length : Int) (by omega) (by have : s.data.toList.length = s.size := rfl; omega)
    have e : packs (bytesL (s :: l)) = packed s.data.toList ++ packs (bytesL l) := by simp [packs, bytesL]
    rw [e, List.length_append]
    have h4 : (packed s.data.toList).length ≤ 1000030 := by
      unfold packed
      rw [List.length_append, List.length_cons]
      have : s.data.toList.length = s.size := rfl
      omega
    simp only [List.length_cons]
    omega
set_option maxHeartbeats 6400000 in
set_option maxRecDepth 100000 in
theorem pack_walk (a : Option Addr) (cap : Nat) (l : List ByteArray) (w : World) (hl : l.length ≤ 1000) (hs : ∀ s ∈ l, s.size ≤ 1000000) (hT : TextsAt w a l) (htab : Lib.TabIs Tryz.prog w "internal/strconv.uint64pow10" .u64 Lib.pow10Tab) :
    Calls Tryz.prog 165 #[.slice a l.length cap] w fun e w' => e = .returned (.string ⟨(packs (bytesL l)).toArray⟩) ∧ Below w.heap.size w w' := by
  obtain ⟨i0, hi, hz0, hz1, hz2⟩ := info_parts infoByte
  have hTB := Lib.tabBelow_of_tabIs htab
  go_enter Tryz.func165, Tryz.ntmps165
  go_wp2
  go_loopw [3, 8] (fun v i wr => ∃ k : Nat, k ≤ l.length ∧ i = .int .i64 k ∧ wr.ownsRow w.heap.size 5 1 v (packs (bytesL (l.take k))).length (Lib.byteCells (packs (bytesL (l.take k)))) ∧ Below w.heap.size w wr)
    (fun _ i _ => l.length - (intOf i).toNat)
  case atStart => exact ⟨0, Nat.zero_le _, rfl, World.ownsRow_nil _ _ _ _, Below.refl _ _⟩
  case round =>
    obtain ⟨k, hk, rfl, hown, hB⟩ := hrel
    have hlen := packs_len (l.take k) (fun s h => hs s (List.mem_of_mem_take h))
    have hkl : (l.take k).length ≤ 1000 := by rw [List.length_take]; omega
    by_cases hlt : k < l.length
    · obtain ⟨s, hsk⟩ : ∃ s, l[k]? = some s := ⟨_, List.getElem?_eq_getElem hlt⟩
      have hss := hs s (List.mem_of_getElem? hsk)
      rcases hT with hT | ⟨b, o, rfl, hb, hc⟩
      · rw [hT] at hlt; cases hlt
      have hcell := (hB.cell (p := ⟨b, o + k, none⟩) hb).trans (hc k s hsk)
      generalize hn : (packs (bytesL (l.take k))).length = n at hown hlen
      generalize hx : Lib.byteCells (packs (bytesL (l.take k))) = xs at hown
      have hnb : n ≤ 1000 * 1000030 := Nat.le_trans hlen (Nat.mul_le_mul_right _ hkl)
      go_wp2_with (go_at_call 202; refine (appendInt w.heap.size n (s.size : Int) (by omega) (by omega) _ xs wr hown hB.size (by omega) (hTB.on hB)).mono ?_; rintro e w1 ⟨v1, rfl, hown1, hnx1⟩; refine Hid.out ?_)
      refine Lib.hid ?_
      have hi20 := Lib.itoa_length_le (s.size : Int) (by omega) (by omega)
      have hsz1 : w.heap.size ≤ w1.heap.size := Nat.le_trans hB.size hnx1.size
      have hB1 : Below w.heap.size w w1 := hB.trans hnx1
      go_wp2_with (at_builtin; refine wpList_append_own _ rfl _ _ 274 rfl w.heap.size 5 i0 (.int .u8 0) 1 1 Tryz.underlying274 hi hz0 hz1 hz2 rfl (by decide) _ _ _ rfl (hown1.alloc _) ⟨w1.heap.size, 0, none⟩ 1 1 [Value.int .u8 58] rfl rfl (by intro j u' hj; match j, hj with | 0, hj => simp at hj; subst hj; simp [Addr.add]) (by intro u' hu'; simp at hu'; subst hu'; rfl) (by unfold maxLen; omega) (by omega) (by simp; omega) ?_)
      intro v2 w2 hown2 hgrow _
      have hnx2 : Below w.heap.size w w2 := (hB1.alloc hsz1 _).grown hgrow (by simp; omega) (fun k hk => (hown1.lt k hk).1)
      obtain ⟨v3, w3, hr3, hown3, hgrow3, _⟩ := Lib.run_append_own_string (P := Tryz.prog) (w := w2) w.heap.size 274 9 274 5 i0 Tryz.underlying274 Tryz.underlying9 hi hz0 hz1 hz2 v2 _ _ hown2 s (by unfold maxLen; omega) (by omega) hnx2.size
      have hnx3 : Below w.heap.size w w3 := hnx2.grown hgrow3 hnx2.size (fun k hk => (hown2.lt k hk).1)
      go_wp2_with (at_builtin; refine Lib.wpList_append_run _ rfl _ _ _ _ rfl _ _ rfl rfl _ _ hr3 ?_)
      refine ⟨⟨k + 1, by omega, by simp, ?_, hnx3⟩, by simp [intOf]; omega⟩
      have e1 : (packs (bytesL (l.take (k + 1)))).length = n + (Lib.itoa (s.size : Int)).length + 1 + s.size := by
        rw [packs_take l k s hsk, List.length_append, hn]
        unfold packed
        rw [List.length_append, List.length_cons]
        have : s.data.toList.length = s.size := rfl
        rw [this]; omega
      have e2 : Lib.byteCells (packs (bytesL (l.take (k + 1)))) = xs ++ Lib.byteCells (Lib.itoa (s.size : Int)) ++ [Value.int .u8 58] ++ Lib.strCells s := by
        rw [packs_take l k s hsk, ← hx]
        unfold packed
        have : s.data.toList.length = s.size := rfl
        rw [this]
        simp [Lib.byteCells, Lib.strCells]
      rw [e1, e2]
      simpa only [List.append_assoc] using hown3
    · obtain rfl : k = l.length := by omega
      rw [List.take_length] at hown
      generalize hp : packs (bytesL l) = p at hown
      rcases hown.2 with ⟨rfl, h0⟩ | ⟨g, cap', cur, rfl, -, -, -, -, -, -⟩
      · have hcv : (convert 274 9 (.slice none 0 0)).run Tryz.prog wr = .ok (.string ByteArray.empty) wr := by
          rw [run_convert_bytes_string wr 274 9 5 none 0 0 Tryz.underlying274 Tryz.underlying5 Tryz.underlying9]; rfl
        have hp0 : p = [] := List.eq_nil_of_length_eq_zero h0
        subst hp0
        go_wp2
        go_ret
        refine ⟨?_, hB⟩
        rw [hp]
        rfl
      · have hcv := run_convert_bytes_back (P := Tryz.prog) wr 274 9 5 ⟨g, 0, none⟩ cap' p Tryz.underlying274 Tryz.underlying5 Tryz.underlying9 (fun j hj => hown.cells (g := g) rfl j _ (by simp [Lib.byteCells, hj]))
        have HP := Lib.hid hp
        clear hp
        go_wp2
        go_ret
        have hp := HP.out
        subst hp
        exact ⟨rfl, hB⟩
theorem texts_lie {S : Nat → Prop} {w : World} {u : Value} {l : List (List UInt8)} (hS : ∀ b, S b → b < w.heap.size) (h : Rep S w u (.l (encL V.s l))) : ∃ (a : Option Addr) (c : Nat) (xs : List ByteArray), u = .slice a xs.length c ∧ bytesL xs = l ∧ TextsAt w a xs := by
  obtain ⟨a, c, k, vs, rfl, hk, h1, hr, hc, hd⟩ := h.slice
  have hfl : ∀ l : List (List UInt8), flatc (encL V.s l) = encL V.s l := fun l => by
    induction l with
    | nil => rfl
    | cons x l ih => rw [encL_cons, flatc_cons, ih]; rfl
  rw [hfl] at hr
  have hx : ∃ xs : List ByteArray, vs = xs.map Value.string ∧ bytesL xs = l := by
    clear h hd hk h1 hc
    induction l generalizing vs with
    | nil =>
      have : vs = [] := List.eq_nil_of_length_eq_zero hr.1
      exact ⟨[], this, rfl⟩
    | cons x l ih =>
      match vs, hr with
      | [], hr => exact absurd hr.1 (by simp)
      | v :: vs, hr =>
        have h0 : Rep S w v (.s x) := hr.2 0 v _ rfl rfl
        obtain ⟨xs, rfl, rfl⟩ := ih vs hr.tail
        obtain ⟨y, rfl, rfl⟩ : ∃ y : ByteArray, v = .string y ∧ y.data.toList = x := by
          generalize x = q at h0
          cases h0
          exact ⟨_, rfl, rfl⟩
        exact ⟨y :: xs, rfl, rfl⟩
  obtain ⟨xs, rfl, rfl⟩ := hx
  refine ⟨a, c, xs, by simp [bytesL, encL], rfl, ?_⟩
  rcases hd with he | ⟨ad, rfl, hs, hu⟩
  · left
    cases xs with
    | nil => rfl
    | cons x r => simp [bytesL, encL] at he
  · cases xs with
    | nil => exact .inl rfl
    | cons x r =>
      have hsp : ad.spot = none := spot_none (hu 0 (.string x) rfl)
      obtain ⟨b, o, sp⟩ := ad
      simp only at hsp
      subst hsp
      refine .inr ⟨b, o, rfl, hS _ hs, fun k s hk => ?_⟩
      have := hu k (.string s) (by rw [List.getElem?_map, hk]; rfl)
      unfold Addr.add at this
      split at this
      · rename_i h0; subst h0; exact this
      · exact this
def packF (xs : List V) : Option V := match xs with
  | [.l ts] => (textsOf ts).bind fun l => if l.length ≤ 1000 ∧ l.all (fun s => decide (s.length ≤ 1000000)) = true then some (.s (packs l)) else none
  | _ => none
theorem pack_PF {xs : List V} {y : V} (h : packF xs = some y) : PF Tryz.prog 165 xs y := by
  unfold packF at h
  split at h
  · rename_i ts
    simp only [Option.bind_eq_some_iff] at h
    obtain ⟨l, hl, h⟩ := h
    split at h
    · rename_i hc
      cases h
      rw [textsOf_eq hl]
      intro S w vs hS hG hr
      obtain ⟨v, rfl, hv⟩ := args1 hr
      obtain ⟨a, c, ys, rfl, rfl, hT⟩ := texts_lie hS hv
      refine pf_flat (u := .string ⟨(packs (bytesL ys)).toArray⟩) hS (fun w' => by
        have : Rep S w' (.string ⟨(packs (bytesL ys)).toArray⟩) (.s (⟨(packs (bytesL ys)).toArray⟩ : ByteArray).data.toList) := .s _
        show Rep S w' _ _
        simpa using this) ?_
      refine pack_walk a c ys w (by simpa [bytesL] using hc.1) (fun s hs => ?_) hT (tab_is hG)
      have := List.all_eq_true.1 hc.2 s.data.toList (List.mem_map.2 ⟨s, hs, rfl⟩)
      simpa using this
    · cases h
  · cases h
end Go.Proofs.YtdlpbedneamebaaGreatDoor
