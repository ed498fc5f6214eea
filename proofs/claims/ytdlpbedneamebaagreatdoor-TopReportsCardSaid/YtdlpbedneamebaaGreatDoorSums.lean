/-
  The sums of an entry's legs, currency by currency.
-/
import Derived.Test.YtdlpbedneamebaaGreatDoorTot5
import Derived.Test.YtdlpbedneamebaaGreatDoorSpec4
namespace Go.Proofs.YtdlpbedneamebaaGreatDoor
open Go.VM
variable {X : Orc}
theorem slcT {α : Type} (f : α → V) (n : Nat) (hf : ∀ x, (f x).cells.length = n) (o : Orc) (l : List α) (k : Nat) (h : k ≤ l.length) : opQ o (.slc n false true) [.l (encL f l), .i .i64 (k : Int)] = some (.l (encL f (l.take k))) := by
  have hb : bnds (encL f l).length false true [.i .i64 (k : Int)] = some (0, k) := by
    have : (k : Int) ≤ ((encL f l).length : Int) := by simp; omega
    simp only [bnds]
    rw [if_pos ⟨by omega, this⟩]
    simp
  have ha : (encL f l).all (fun x => x.cells.length == n) = true := encL_all fun x => by simp [hf x]
  simp only [opQ, ha, if_true, hb, Option.map_some, List.drop_zero]
  simp [encL]
theorem slcD {α : Type} (f : α → V) (n : Nat) (hf : ∀ x, (f x).cells.length = n) (o : Orc) (l : List α) (k : Nat) (h : k ≤ l.length) : opQ o (.slc n true false) [.l (encL f l), .i .i64 (k : Int)] = some (.l (encL f (l.drop k))) := by
  have hb : bnds (encL f l).length true false [.i .i64 (k : Int)] = some (k, l.length) := by
    have : (k : Int) ≤ ((encL f l).length : Int) := by simp; omega
    simp only [bnds]
    rw [if_pos ⟨by omega, this⟩]
    simp
  have ha : (encL f l).all (fun x => x.cells.length == n) = true := encL_all fun x => by simp [hf x]
  simp only [opQ, ha, if_true, hb, Option.map_some]
  simp only [encL]
  rw [List.take_of_length_le (by simp), List.map_drop]
structure Mo where
  cur : List UInt8
  amt : Int
abbrev Mo.cells (x : Mo) : List V := [.s x.cur, .i .i64 x.amt]
abbrev Mo.v (x : Mo) : V := .a ([.s x.cur, .i .i64 x.amt])
@[simp] theorem Mo.all_len (l : List Mo) : (encL Mo.v l).all (fun x => x.cells.length == 2) = true := encL_all fun _ => rfl
@[simp] theorem Mo.len_all (l : List Mo) : (∀ x ∈ encL Mo.v l, x.cells.length = 2) = True := encL_len fun _ => rfl
def tot (c : List UInt8) : List Mo → Int
  | [] => 0
  | m :: l => (if m.cur = c then m.amt else 0) + tot c l
def totL (c : List UInt8) : List Leg → Int
  | [] => 0
  | m :: l => (if m.currency = c then m.amount else 0) + totL c l
theorem tot_app (c : List UInt8) : ∀ a b : List Mo, tot c (a ++ b) = tot c a + tot c b
  | [], b => by simp [tot]
  | m :: a, b => by simp only [List.cons_append, tot, tot_app c a b]; omega
theorem totL_app (c : List UInt8) : ∀ a b : List Leg, totL c (a ++ b) = totL c a + totL c b
  | [], b => by simp [totL]
  | m :: a, b => by simp only [List.cons_append, totL, totL_app c a b]; omega
theorem totL_take (c : List UInt8) (l : List Leg) {i : Nat} (hi : i < l.length) : totL c (l.take (i + 1)) = totL c (l.take i) + (if l[i].currency = c then l[i].amount else 0) := by
  rw [List.take_succ_eq_append_getElem hi, totL_app]
  simp [totL]
theorem w_congr {a b : Int} : IntKind.i64.wrap a = IntKind.i64.wrap b ↔ a % 18446744073709551616 = b % 18446744073709551616 := by
  simp only [IntKind.wrap_i64]; omega
theorem l207a (l : List Leg) (i : Nat) (hi : i < l.length) (out : List Mo) (ho : out.length ≤ 1000) : ∃ k : Nat, k ≤ out.length ∧ loopK (O X) [0, 3, 4, 5, 6] body207_1 [(0, .l (encL Leg.v l)), (3, .ow 122 (encL Mo.v out)), (4, .i .i64 i), (5, .ow 122 []), (6, .i .i64 0)] = some (.e 2, [(0, .l (encL Leg.v l)), (3, .ow 122 (encL Mo.v out)), (4, .i .i64 i), (5, .ow 122 []), (6, .i .i64 k)]) := by
  have : ∃ r, loopK (O X) [0, 3, 4, 5, 6] body207_1 [(0, .l (encL Leg.v l)), (3, .ow 122 (encL Mo.v out)), (4, .i .i64 i), (5, .ow 122 []), (6, .i .i64 ((0 : Nat) : Int))] = some r ∧ ∃ k : Nat, k ≤ out.length ∧ r = (.e 2, [(0, .l (encL Leg.v l)), (3, .ow 122 (encL Mo.v out)), (4, .i .i64 i), (5, .ow 122 []), (6, .i .i64 k)]) := by
    refine loopK_tot (fun k => [(0, .l (encL Leg.v l)), (3, .ow 122 (encL Mo.v out)), (4, .i .i64 i), (5, .ow 122 []), (6, .i .i64 (k : Int))]) out.length _ (by simp) (fun k hk => ?_) ⟨(.e 2, [(0, .l (encL Leg.v l)), (3, .ow 122 (encL Mo.v out)), (4, .i .i64 i), (5, .ow 122 []), (6, .i .i64 out.length)]), by simp [body207_1], by simp, out.length, Nat.le_refl _, rfl⟩
    have hw := wrap_i64 (k + 1) (by omega)
    by_cases hb : Op.bytesLess out[k].cur l[i].currency = true
    · exact ⟨_, by simp [body207_1, hi, hk, hw, hb]; rfl, .inl ⟨rfl, by simp⟩⟩
    · exact ⟨(.e 2, [(0, .l (encL Leg.v l)), (3, .ow 122 (encL Mo.v out)), (4, .i .i64 i), (5, .ow 122 []), (6, .i .i64 k)]), by simp [body207_1, hi, hk, hb], .inr ⟨by simp, k, by omega, rfl⟩⟩
  obtain ⟨_, h, k, hk, rfl⟩ := this
  exact ⟨k, hk, h⟩
set_option maxHeartbeats 8000000 in
theorem t67 (l : List Leg) (h : l.length ≤ 1000) : ∃ out : List Mo, O X 207 [.l (encL Leg.v l)] = some (.ow 122 (encL Mo.v out)) ∧ out.length ≤ l.length ∧ ∀ c, IntKind.i64.wrap (tot c out) = IntKind.i64.wrap (totL c l) := by
  have hl : ∃ r, loopK (O X) [0, 3, 4] body207_2 [(0, .l (encL Leg.v l)), (3, .ow 122 (encL Mo.v [])), (4, .i .i64 ((0 : Nat) : Int))] = some r ∧ ∃ out : List Mo, r = (.e 0, [(3, .ow 122 (encL Mo.v out))]) ∧ out.length ≤ l.length ∧ ∀ c, IntKind.i64.wrap (tot c out) = IntKind.i64.wrap (totL c l) := by
    refine loopK_inv (fun i env => ∃ out : List Mo, env = [(0, .l (encL Leg.v l)), (3, .ow 122 (encL Mo.v out)), (4, .i .i64 (i : Int))] ∧ out.length ≤ i ∧ ∀ c, IntKind.i64.wrap (tot c out) = IntKind.i64.wrap (totL c (l.take i))) l.length _ (fun i env hI => ?_) (fun i env hi hI => ?_) (fun env hI => ?_) l.length 0 _ (by omega) ⟨[], rfl, by simp, fun c => by simp [tot, totL]⟩
    · obtain ⟨out, rfl, _⟩ := hI; simp
    · obtain ⟨out, rfl, hlen, hs⟩ := hI
      left
      have hw := wrap_i64 (i + 1) (by omega)
      obtain ⟨k, hk, hl⟩ := l207a (X := X) l i hi out (by omega)
      have hs1 := slcT Mo.v 2 (fun _ => rfl) (O X) out k hk
      have hA : (encL Mo.v out).length = out.length := by simp
      have hTc : ∀ m : List Mo, (∀ y ∈ encL Mo.v m, y.cells.length = 2) = True := fun m => encL_len fun _ => rfl
      have hTl : (encL Mo.v (out.take k)).length ≤ 1000 := by simp; omega
      have hap1 : (encL Mo.v (out.take k)).length * 24 ≤ 140737488355328 := by omega
      have hap2 : ((encL Mo.v (out.take k)).length + 1) * 24 ≤ 140737488355328 := by omega
      by_cases hm : ∃ hk' : k < out.length, out[k].cur = l[i].currency
      · obtain ⟨hk', hcur⟩ := hm
        have hwk := wrap_i64 (k + 1) (by omega)
        have hs2 := slcD Mo.v 2 (fun _ => rfl) (O X) out (k + 1) (by omega)
        have hDl : (encL Mo.v (out.drop (k + 1))).length ≤ 1000 := by simp; omega
        have hap3 : ((encL Mo.v (out.take k)).length + 1 + (encL Mo.v (out.drop (k + 1))).length) * 24 ≤ 140737488355328 := by omega
        have hT1 := hTc (out.take k)
        have hT2 := hTc (out.drop (k + 1))
        refine ⟨[(0, .l (encL Leg.v l)), (3, .ow 122 (encL Mo.v (out.take k ++ ⟨l[i].currency, IntKind.i64.wrap (l[i].amount + out[k].amt)⟩ :: out.drop (k + 1)))), (4, .i .i64 ((i + 1 : Nat) : Int))], ?_, _, rfl, by simp; omega, fun c => ?_⟩
        · have hres : encL Mo.v (out.take k ++ ⟨l[i].currency, IntKind.i64.wrap (l[i].amount + out[k].amt)⟩ :: out.drop (k + 1)) = encL Mo.v (out.take k) ++ .a [.s l[i].currency, .i .i64 (IntKind.i64.wrap (l[i].amount + out[k].amt))] :: encL Mo.v (out.drop (k + 1)) := by simp [encL]
          rw [hres]
          simp only [Int.natCast_add, Int.natCast_one] at hs2
          generalize encL Mo.v (out.take k) = T at *
          generalize encL Mo.v (out.drop (k + 1)) = D at *
          simp (config := { maxSteps := 1000000 }) [body207_2, exec_loopK, hi, hw, hl, hs1, hs2, hk', hcur, hwk, hap1, hap2, hap3, hT1, hT2]
        · have hsp : out = out.take k ++ out[k] :: out.drop (k + 1) := by rw [List.getElem_cons_drop, List.take_append_drop]
          have hs' := hs c
          conv at hs' => lhs; rw [hsp, tot_app, tot]
          rw [tot_app, tot, totL_take c l hi]
          rw [w_congr] at hs' ⊢
          have := IntKind.wrap_i64 (l[i].amount + out[k].amt)
          rw [hcur] at hs'
          by_cases hc : l[i].currency = c
          · simp only [hc, if_true] at hs' ⊢; omega
          · simp only [hc, if_false] at hs' ⊢; omega
      · have hs2 := slcD Mo.v 2 (fun _ => rfl) (O X) out k hk
        have hDl : (encL Mo.v (out.drop k)).length ≤ 1000 := by simp; omega
        have hap3 : ((encL Mo.v (out.take k)).length + 1 + (encL Mo.v (out.drop k)).length) * 24 ≤ 140737488355328 := by omega
        have hT1 := hTc (out.take k)
        have hT2 := hTc (out.drop k)
        refine ⟨[(0, .l (encL Leg.v l)), (3, .ow 122 (encL Mo.v (out.take k ++ ⟨l[i].currency, l[i].amount⟩ :: out.drop k))), (4, .i .i64 ((i + 1 : Nat) : Int))], ?_, _, rfl, by simp; omega, fun c => ?_⟩
        · have hres : encL Mo.v (out.take k ++ ⟨l[i].currency, l[i].amount⟩ :: out.drop k) = encL Mo.v (out.take k) ++ .a [.s l[i].currency, .i .i64 l[i].amount] :: encL Mo.v (out.drop k) := by simp [encL]
          rw [hres]
          by_cases hk' : k < out.length
          · have hcur : ¬ out[k].cur = l[i].currency := fun e => hm ⟨hk', e⟩
            generalize encL Mo.v (out.take k) = T at *
            generalize encL Mo.v (out.drop k) = D at *
            simp (config := { maxSteps := 1000000 }) [body207_2, exec_loopK, hi, hw, hl, hs1, hs2, hk', hcur, hap1, hap2, hap3, hT1, hT2]
          · have hk2 : ¬ (k : Int) < (out.length : Int) := by omega
            generalize encL Mo.v (out.take k) = T at *
            generalize encL Mo.v (out.drop k) = D at *
            simp (config := { maxSteps := 1000000 }) [body207_2, exec_loopK, hi, hw, hl, hs1, hs2, hk2, hap1, hap2, hap3, hT1, hT2]
        · have hsp : out = out.take k ++ out.drop k := (List.take_append_drop ..).symm
          have hs' := hs c
          conv at hs' => lhs; rw [hsp, tot_app]
          rw [tot_app, tot, totL_take c l hi]
          rw [w_congr] at hs' ⊢
          simp only
          split <;> omega
    · obtain ⟨out, rfl, hlen, hs⟩ := hI
      exact ⟨(.e 0, [(3, .ow 122 (encL Mo.v out))]), by simp [body207_2], by simp, out, rfl, hlen, fun c => by rw [hs, List.take_length]⟩
  obtain ⟨_, hl, out, rfl, hlen, hs⟩ := hl
  simp only [Int.natCast_zero] at hl
  rw [encL_nil] at hl
  refine ⟨out, orun (fc := code207) rfl rfl rfl ?_, hlen, hs⟩
  generalize encL Mo.v out = D at hl ⊢
  simp [code207, exec_loopK, hl]
end Go.Proofs.YtdlpbedneamebaaGreatDoor
namespace Go.Proofs.YtdlpbedneamebaaGreatDoor
open Go.VM
variable {X : Orc}
def IP (P : Prop) (y : V) : Prop := ∃ n, y = .i .i64 n ∧ (n = 0 → P)
@[simp] theorem IP_mk (P : Prop) (n : Int) : IP P (.i .i64 n) = (n = 0 → P) := by
  apply propext
  constructor
  · rintro ⟨m, h, hp⟩ h0
    cases h
    exact hp h0
  · intro h
    exact ⟨n, rfl, h⟩
def BP (P : Prop) (y : V) : Prop := ∃ t, y = .b t ∧ (t = true → P)
@[simp] theorem BP_mk (P : Prop) (t : Bool) : BP P (.b t) = (t = true → P) := by
  apply propext
  constructor
  · rintro ⟨m, h, hp⟩ h0
    cases h
    exact hp h0
  · intro h
    exact ⟨t, rfl, h⟩
theorem tot_zero (c : List UInt8) : ∀ (l : List Mo), (∀ m ∈ l, m.amt = 0) → tot c l = 0
  | [], _ => rfl
  | m :: l, h => by
    rw [tot, h m (List.mem_cons_self ..), tot_zero c l fun x hx => h x (List.mem_cons_of_mem _ hx)]
    split <;> rfl
def Flat (l : List Leg) : Prop := ∀ c, IntKind.i64.wrap (totL c l) = 0
def Shaped (e : Entry) : Prop := e.key.length ≤ 48 ∧ e.text.length ≤ 64 ∧ ∀ x ∈ e.legs, x.currency.length = 3
theorem l175a (e : Entry) (h : e.legs.length ≤ 12) : ∃ r, loopK (O X) [1, 3] body175_1 [(1, .bx e.cells), (3, .i .i64 0)] = some r ∧ ((∃ n : Int, r = (.r, [(2, .i .i64 n)]) ∧ n ≠ 0) ∨ (r = (.e 0, [(1, .bx e.cells)]) ∧ ∀ x ∈ e.legs, x.currency.length = 3)) := by
  have := loopK_inv (o := O X) (kin := [1, 3]) (c := body175_1) (fun i env => env = [(1, .bx e.cells), (3, .i .i64 (i : Int))] ∧ ∀ (k : Nat) (hk : k < e.legs.length), k < i → e.legs[k].currency.length = 3) e.legs.length (fun r => (∃ n : Int, r = (.r, [(2, .i .i64 n)]) ∧ n ≠ 0) ∨ (r = (.e 0, [(1, .bx e.cells)]) ∧ ∀ x ∈ e.legs, x.currency.length = 3)) (fun i env hI => by obtain ⟨rfl, _⟩ := hI; simp) (fun i env hi hI => by
    obtain ⟨rfl, hz⟩ := hI
    have hw := wrap_i64 (i + 1) (by omega)
    obtain ⟨n, hn, hc⟩ := t66l (X := X) e.legs[i]
    by_cases h0 : n = 0
    · left
      refine ⟨[(1, .bx e.cells), (3, .i .i64 ((i + 1 : Nat) : Int))], by simp [body175_1, hi, hw, hn, h0], rfl, fun k hk hki => ?_⟩
      by_cases e : k = i
      · subst e; exact hc h0
      · exact hz k hk (by omega)
    · right
      exact ⟨(.r, [(2, .i .i64 n)]), by simp [body175_1, hi, hn, h0], by simp, .inl ⟨n, rfl, h0⟩⟩) (fun env hI => by
    obtain ⟨rfl, hz⟩ := hI
    refine ⟨(.e 0, [(1, .bx e.cells)]), by simp [body175_1], by simp, .inr ⟨rfl, fun m hm => ?_⟩⟩
    obtain ⟨k, hk, rfl⟩ := List.getElem_of_mem hm
    exact hz k hk hk) e.legs.length 0 [(1, .bx e.cells), (3, .i .i64 ((0 : Nat) : Int))] (by omega) ⟨rfl, fun k _ h => absurd h (by omega)⟩
  simpa using this
theorem l175b (out : List Mo) (h : out.length ≤ 1000) : ∃ r, loopK (O X) [5, 6] body175_2 [(5, .ow 122 (encL Mo.v out)), (6, .i .i64 0)] = some r ∧ (r = (.r, [(2, .i .i64 15)]) ∨ (r = (.e 2, []) ∧ ∀ m ∈ out, m.amt = 0)) := by
  have := loopK_inv (o := O X) (kin := [5, 6]) (c := body175_2) (fun i env => env = [(5, .ow 122 (encL Mo.v out)), (6, .i .i64 (i : Int))] ∧ ∀ (k : Nat) (hk : k < out.length), k < i → out[k].amt = 0) out.length (fun r => r = (.r, [(2, .i .i64 15)]) ∨ (r = (.e 2, []) ∧ ∀ m ∈ out, m.amt = 0)) (fun i env hI => by obtain ⟨rfl, _⟩ := hI; simp) (fun i env hi hI => by
    obtain ⟨rfl, hz⟩ := hI
    have hw := wrap_i64 (i + 1) (by omega)
    by_cases h0 : out[i].amt = 0
    · left
      refine ⟨[(5, .ow 122 (encL Mo.v out)), (6, .i .i64 ((i + 1 : Nat) : Int))], by simp [body175_2, hi, hw, h0], rfl, fun k hk hki => ?_⟩
      by_cases e : k = i
      · subst e; exact h0
      · exact hz k hk (by omega)
    · right
      exact ⟨(.r, [(2, .i .i64 15)]), by simp [body175_2, hi, h0], by simp, .inl rfl⟩) (fun env hI => by
    obtain ⟨rfl, hz⟩ := hI
    refine ⟨(.e 2, []), by simp [body175_2], by simp, .inr ⟨rfl, fun m hm => ?_⟩⟩
    obtain ⟨k, hk, rfl⟩ := List.getElem_of_mem hm
    exact hz k hk hk) out.length 0 [(5, .ow 122 (encL Mo.v out)), (6, .i .i64 ((0 : Nat) : Int))] (by omega) ⟨rfl, fun k _ h => absurd h (by omega)⟩
  simpa using this
set_option maxHeartbeats 4000000 in
theorem t46 (e : Entry) : ∃ n : Int, O X 175 [e.v] = some (.i .i64 n) ∧ (n = 0 → e.legs.length ≤ 12 ∧ Flat e.legs ∧ Shaped e) := by
  have : ∃ y, O X 175 [e.v] = some y ∧ IP (e.legs.length ≤ 12 ∧ Flat e.legs ∧ Shaped e) y := by
    refine orunE (fc := code175) rfl rfl rfl ?_
    obtain ⟨t1, h1, k1⟩ := t64l (X := X) e.key
    obtain ⟨t2, h2, k2⟩ := t65l (X := X) e.text 64 32 (by omega)
    have h3 := o81 (X := X) e.booked
    have h4 := o81 (X := X) e.value
    have h5 := o81 (X := X) e.period
    generalize decide (0 ≤ e.booked ∧ e.booked ≤ 73048) = t3 at h3
    generalize decide (0 ≤ e.value ∧ e.value ≤ 73048) = t4 at h4
    generalize decide (0 ≤ e.period ∧ e.period ≤ 73048) = t5 at h5
    cases t1 with
    | false => simp [code175, h1]
    | true =>
    cases t2 with
    | false => simp [code175, h1, h2]
    | true =>
    cases t3 with
    | false => simp [code175, h1, h2, h3]
    | true =>
    cases t4 with
    | false => simp [code175, h1, h2, h3, h4]
    | true =>
    by_cases c1 : e.kind < 1
    · simp [code175, h1, h2, h3, h4, c1]
    by_cases c2 : 14 < e.kind
    · simp [code175, h1, h2, h3, h4, c1, c2]
    by_cases c3 : e.auth < 0
    · simp [code175, h1, h2, h3, h4, c1, c2, c3]
    by_cases c4 : 3 < e.auth
    · simp [code175, h1, h2, h3, h4, c1, c2, c3, c4]
    by_cases c5 : e.period ≠ 0 ∧ t5 = false
    · obtain ⟨c5, rfl⟩ := c5
      simp [code175, h1, h2, h3, h4, h5, c1, c2, c3, c4, c5]
    by_cases c6 : (e.legs.length : Int) < 2
    · by_cases c7 : e.period = 0
      · simp [code175, h1, h2, h3, h4, c1, c2, c3, c4, c6, c7]
      · have : t5 = true := by cases t5 with | true => rfl | false => exact absurd ⟨c7, rfl⟩ c5
        subst this
        simp [code175, h1, h2, h3, h4, h5, c1, c2, c3, c4, c6, c7]
    by_cases c8 : (12 : Int) < (e.legs.length : Int)
    · by_cases c7 : e.period = 0
      · simp [code175, h1, h2, h3, h4, c1, c2, c3, c4, c6, c7, c8]
      · have : t5 = true := by cases t5 with | true => rfl | false => exact absurd ⟨c7, rfl⟩ c5
        subst this
        simp [code175, h1, h2, h3, h4, h5, c1, c2, c3, c4, c6, c7, c8]
    have h12 : e.legs.length ≤ 12 := by omega
    obtain ⟨r1, hl1, hr1⟩ := l175a (X := X) e h12
    obtain ⟨out, h67, hol, hs⟩ := t67 (X := X) e.legs (by omega)
    obtain ⟨r2, hl2, hr2⟩ := l175b (X := X) out (by omega)
    have hfl : (∀ m ∈ out, m.amt = 0) → Flat e.legs := fun hz c => by rw [← hs, tot_zero c out hz]; exact wrap_i64 0 (by omega)
    generalize encL Mo.v out = D at h67 hl2
    rcases hr1 with ⟨n, rfl, hn⟩ | ⟨rfl, hcur⟩
    · by_cases c7 : e.period = 0
      · simp only [Entry.cells, c7] at hl1
        simp [code175, exec_loopK, h1, h2, h3, h4, c1, c2, c3, c4, c6, c7, c8, hl1, hn]
      · have : t5 = true := by cases t5 with | true => rfl | false => exact absurd ⟨c7, rfl⟩ c5
        subst this
        simp [code175, exec_loopK, h1, h2, h3, h4, h5, c1, c2, c3, c4, c6, c7, c8, hl1, hn]
    rcases hr2 with rfl | ⟨rfl, hz⟩
    · by_cases c7 : e.period = 0
      · simp only [Entry.cells, c7] at hl1
        simp [code175, exec_loopK, h1, h2, h3, h4, c1, c2, c3, c4, c6, c7, c8, hl1, h67, hl2]
      · have : t5 = true := by cases t5 with | true => rfl | false => exact absurd ⟨c7, rfl⟩ c5
        subst this
        simp [code175, exec_loopK, h1, h2, h3, h4, h5, c1, c2, c3, c4, c6, c7, c8, hl1, h67, hl2]
    · have hf := hfl hz
      have hsh : Shaped e := ⟨k1 rfl, by have := k2 rfl; omega, hcur⟩
      by_cases c7 : e.period = 0
      · simp only [Entry.cells, c7] at hl1
        simp [code175, exec_loopK, h1, h2, h3, h4, c1, c2, c3, c4, c6, c7, c8, hl1, h67, hl2, hf, h12, hsh]
      · have : t5 = true := by cases t5 with | true => rfl | false => exact absurd ⟨c7, rfl⟩ c5
        subst this
        simp [code175, exec_loopK, h1, h2, h3, h4, h5, c1, c2, c3, c4, c6, c7, c8, hl1, h67, hl2, hf, h12, hsh]
  obtain ⟨y, h, n, rfl, hp⟩ := this
  exact ⟨n, h, hp⟩
end Go.Proofs.YtdlpbedneamebaaGreatDoor
namespace Go.Proofs.YtdlpbedneamebaaGreatDoor
open Go.VM
variable {X : Orc}
structure Szs (b : Books) : Prop where
  curs : b.currencies.length ≤ 1000
  chart : b.chart.length ≤ 1000
  accs : b.accounts.length ≤ 1000
  prods : b.products.length ≤ 1000
  jour : b.journal.length ≤ 1000
theorem gV_ex (q : Option Gl) : ∃ (c : Gl) (t : Bool), gV q = .t [c.v, .b t] ∧ (t = true → q.isSome = true) := by
  cases q with
  | none => exact ⟨g0, false, rfl, by simp⟩
  | some c => exact ⟨c, true, rfl, by simp⟩
theorem cV_ex' (q : Option Currency) : ∃ (c : Currency) (t : Bool), cV q = .t [c.v, .b t] := by
  cases q with
  | none => exact ⟨c0, false, rfl⟩
  | some c => exact ⟨c, true, rfl⟩
end Go.Proofs.YtdlpbedneamebaaGreatDoor
