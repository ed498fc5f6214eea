/-
  What the functions that the laws reach compute: Check, indices, lists.
-/
import Derived.Test.YtoahbbpjhdegoaaDoorSpec
namespace Go.Proofs.YtoahbbpjhdegoaaDoor
open Go.VM
/-- Keys are texts of the language. -/
def KOk (l : List Debit) : Prop := ∀ x ∈ l, x.key.length ≤ maxLen
def presented (x : Debit) : Bool := ((decide (x.state = 1) && decide (x.settled = 0)) && decide (x.returned = 0)) && decide (x.reason = 0)
@[simp] theorem e34 (x : Debit) : O 34 [x.v] = some (.b (presented x)) := by
  refine orun (fc := code34) rfl rfl rfl ?_; simp [code34, presented]
def fits (x : Debit) : Bool :=
  if x.state = 1 then (decide (x.settled = 0) && decide (x.returned = 0)) && decide (x.reason = 0)
  else if x.state = 2 then (validD x.settled && decide (x.returned = 0)) && decide (x.reason = 0)
  else if x.state = 3 then ((((validD x.settled && validD x.returned) && decide (1 ≤ x.reason)) && decide (x.reason ≤ 4)) && decide (x.settled ≤ x.returned)) && decide (x.returned ≤ IntKind.i64.wrap (x.settled + window x.reason))
  else if x.state = 4 then ((decide (x.settled = 0) && decide (x.returned = 0)) && decide (1 ≤ x.reason)) && decide (x.reason ≤ 3)
  else false
@[simp] theorem e32 (x : Debit) : O 32 [x.v] = some (.b (fits x)) := by
  refine orun (fc := code32) rfl rfl rfl ?_
  unfold fits
  by_cases h1 : x.state = 1
  · simp [code32, h1]
  · by_cases h2 : x.state = 2
    · cases hv : validD x.settled <;> simp [code32, h2, hv]
    · by_cases h3 : x.state = 3
      · cases hv : validD x.settled <;> cases hr : validD x.returned <;> simp [code32, h3, hv, hr]
      · by_cases h4 : x.state = 4 <;> simp [code32, h1, h2, h3, h4]
@[simp] theorem e30 (x : Debit) : O 30 [x.v] = some (.b (fits x)) := by
  refine orun (fc := code30) rfl rfl rfl ?_
  unfold fits
  obtain ⟨id, mandate, amount, day, settled, returned, reason, state, key⟩ := x
  by_cases h1 : state = 1
  · subst h1
    have h34 := e34 ⟨id, mandate, amount, day, settled, returned, reason, 1, key⟩
    simp [code30, h34, presented]
  · by_cases h2 : state = 2
    · subst h2; cases hv : validD settled <;> simp [code30, hv]
    · by_cases h3 : state = 3
      · subst h3; cases hv : validD settled <;> cases hr : validD returned <;> simp [code30, hv, hr]
      · by_cases h4 : state = 4 <;> simp [code30, h1, h2, h3, h4]
def shaped (x : Debit) : Bool := decide (1 ≤ x.id) && (amount x.amount && (validD x.day && keyOk x.key))
@[simp] theorem e31 (x : Debit) : O 31 [x.v] = some (.b (shaped x)) := by
  refine orun (fc := code31) rfl rfl rfl ?_
  by_cases h1 : 1 ≤ x.id
  · by_cases h2 : 1 ≤ x.amount
    · have hm : money x.amount = decide (x.amount ≤ 1000000000000) := by
        have : -1000000000000 ≤ x.amount := by omega
        simp [money, this]
      cases hv : validD x.day <;> cases hk : keyOk x.key <;> by_cases h3 : x.amount ≤ 1000000000000 <;> simp [code31, shaped, amount, h1, h2, hv, hk, hm, h3]
    · simp [code31, shaped, amount, h1, h2]
  · simp [code31, shaped, h1]
/-! ### Same -/
theorem l13 (l : List Debit) (h : l.length ≤ 1000) : loopK O [0, 1, 5] body13_1 [(0, .l (enc l)), (1, .l (enc l)), (5, .i .i64 0)] = some (.e 0, []) :=
  loopK_run (o := O) (kin := [0, 1, 5]) (c := body13_1) (fun i => [(0, .l (enc l)), (1, .l (enc l)), (5, .i .i64 i)]) l.length (.e 0, []) (by simp) (fun i hi => by
    have hw := wrap_i64 (i + 1) (by omega)
    simp [body13_1, hi, hw]) (by simp [body13_1]) (by simp)
@[simp] theorem e13 (l : List Debit) (h : l.length ≤ 1000) : O 13 [.l (enc l), .l (enc l)] = some (.b true) := by
  refine orun (fc := code13) rfl rfl rfl ?_
  simp [code13, exec_loopK, l13 l h]
/-! ### Known keys -/
def keys (l : List Debit) : List (List UInt8) := l.map Debit.key
def knownAt (l : List Debit) (k : List UInt8) (i : Nat) : Option Unit := match l[i]? with
  | some x => if x.key = k then some () else none
  | none => none
theorem known_iff (l : List Debit) (k : List UInt8) : ((List.range l.length).findSome? (knownAt l k)).isSome = decide (k ∈ keys l) := by
  rw [Bool.eq_iff_iff, decide_eq_true_iff, Option.isSome_iff_exists]
  constructor
  · rintro ⟨_, h⟩
    obtain ⟨i, hi, h⟩ := List.exists_of_findSome?_eq_some h
    have hi' : i < l.length := List.mem_range.1 hi
    simp only [knownAt, List.getElem?_eq_getElem hi'] at h
    split at h
    · rename_i he
      exact List.mem_map.2 ⟨l[i], List.getElem_mem hi', he⟩
    · cases h
  · intro h
    obtain ⟨x, hx, he⟩ := List.mem_map.1 h
    obtain ⟨i, hi, rfl⟩ := List.getElem_of_mem hx
    cases hq : (List.range l.length).findSome? (knownAt l k) with
    | some u => exact ⟨u, rfl⟩
    | none =>
      have := range_find_none.1 hq i hi
      simp [knownAt, hi, he] at this
theorem l33 (l : List Debit) (k : List UInt8) (h : l.length ≤ 1000) : loopK O [0, 1, 5] body33_1 [(0, .l (enc l)), (1, .s k), (5, .i .i64 0)] = some (optE (fun _ => (.r, [(4, .b true)])) (.e 0, []) ((List.range l.length).findSome? (knownAt l k))) := by
  have := loopK_code (o := O) (kin := [0, 1, 5]) (c := body33_1) (fun i => [(0, .l (enc l)), (1, .s k), (5, .i .i64 i)]) l.length (knownAt l k) (fun _ => (.r, [(4, .b true)])) (.e 0, []) (by simp) (by simp) (fun i hi => by
    have hw := wrap_i64 (i + 1) (by omega)
    by_cases hk : l[i].key = k <;> simp [body33_1, hi, hw, knownAt, hk]) (by simp [body33_1]) (by simp)
  exact this
@[simp] theorem e33 (l : List Debit) (k : List UInt8) (h : l.length ≤ 1000) : O 33 [.l (enc l), .s k] = some (.b (decide (k ∈ keys l))) := by
  refine orun (fc := code33) rfl rfl rfl ?_
  have hl := l33 l k h
  rw [← known_iff l k]
  cases hq : (List.range l.length).findSome? (knownAt l k) <;> rw [hq] at hl <;> simp [code33, exec_loopK, hl]
/-! ### Check -/
def goodB (x : Debit) : Bool := decide (1 ≤ x.id) && (decide (1 ≤ x.mandate) && (amount x.amount && (validD x.day && (keyOk x.key && fits x))))
def chkAt (l : List Debit) (i : Nat) : Option Int := match l[i]? with
  | some x => if goodB x = false then some 1 else if 0 < i ∧ x.id ≤ ((l[i - 1]?).map Debit.id).getD 0 then some 10 else if x.key ∈ keys (l.take i) then some 12 else none
  | none => none
def chk (l : List Debit) : Int := if 64 < l.length then 5 else ((List.range l.length).findSome? (chkAt l)).getD 0
@[simp] theorem keyB_s (a : List UInt8) : keyB 1 (.s a) = true := rfl
theorem keys_take_succ {l : List Debit} {i : Nat} (h : i < l.length) : keys (l.take (i + 1)) = keys (l.take i) ++ [l[i].key] := by
  unfold keys
  rw [List.take_succ_eq_append_getElem h, List.map_append]; rfl
set_option maxHeartbeats 4000000 in
theorem l11 (l : List Debit) (h : l.length ≤ 64) (hk : KOk l) : loopK O [0, 3, 10, 11, 12] body11_1 [(0, .l (enc l)), (3, .mp [] []), (10, .l (enc l)), (11, .i .i64 l.length), (12, .i .i64 0)] =
    some (optE (fun n => (.r, [(2, .i .i64 n)])) (.e 0, []) ((List.range l.length).findSome? (chkAt l))) := by
  have := loopK_code (o := O) (kin := [0, 3, 10, 11, 12]) (c := body11_1) (fun i => [(0, .l (enc l)), (3, .mp (setK (keys (l.take i))) (setV (keys (l.take i)))), (10, .l (enc l)), (11, .i .i64 l.length), (12, .i .i64 i)]) l.length (chkAt l) (fun n => (.r, [(2, .i .i64 n)])) (.e 0, []) (by simp) (by simp) (fun i hi => by
    have hw := wrap_i64 (i + 1) (by omega)
    have hki := hk _ (List.getElem_mem hi)
    have h29 := e29 _ hki
    have h30 := e30 l[i]
    by_cases c1 : goodB l[i] = true
    · have hg := c1
      simp only [goodB, Bool.and_eq_true, decide_eq_true_eq] at hg
      obtain ⟨g1, g2, g3, g4, g5, g6⟩ := hg
      rw [g5] at h29
      rw [g6] at h30
      have g1' : ¬ l[i].id < 1 := by omega
      have g2' : ¬ l[i].mandate < 1 := by omega
      by_cases c3 : l[i].key ∈ keys (l.take i)
      · cases i with
        | zero => simp [keys] at c3
        | succ i =>
          have hi' : i < l.length := by omega
          have e2 : ((i : Int) + 1) - 1 = i := by omega
          have hw2 := wrap_i64 i (by omega)
          have hlt : (i : Int) + 1 < (l.length : Int) := by omega
          have h0 : (0 : Int) ≤ (i : Int) + 1 := by omega
          have hw3 : IntKind.i64.wrap ((i : Int) + 1 + 1) = (i : Int) + 1 + 1 := wrap_i64 _ (by omega)
          have h0' : (0 : Int) < (i : Int) + 1 := by omega
          by_cases c2 : l[i + 1].id ≤ l[i].id
          · simp [body11_1, hi, hi', chkAt, c1, g1', g2', g3, g4, h29, h30, c2, e2, hw2, hlt, h0, h0']
          · simp [body11_1, hi, hi', chkAt, c1, g1', g2', g3, g4, h29, h30, c2, c3, e2, hw2, hlt, h0, h0', mfind_set]
      · have hf := mfind_set l[i].key (keys (l.take i))
        rw [if_neg c3] at hf
        have hks := keys_take_succ hi
        have hm := mkeys_set c3
        have hv := mvals_set c3
        cases i with
        | zero =>
          simp only [List.take_zero, Nat.zero_add] at hf hm hv hks c3
          simp [body11_1, hi, chkAt, c1, g1', g2', g3, g4, h29, h30, c3, hf, hm, hv, hks, show IntKind.i64.wrap 1 = 1 from rfl]
        | succ i =>
          have hi' : i < l.length := by omega
          have e2 : ((i : Int) + 1) - 1 = i := by omega
          have hw2 := wrap_i64 i (by omega)
          have hlt : (i : Int) + 1 < (l.length : Int) := by omega
          have h0 : (0 : Int) ≤ (i : Int) + 1 := by omega
          have hw3 : IntKind.i64.wrap ((i : Int) + 1 + 1) = (i : Int) + 1 + 1 := wrap_i64 _ (by omega)
          have h0' : (0 : Int) < (i : Int) + 1 := by omega
          by_cases c2 : l[i + 1].id ≤ l[i].id
          · simp [body11_1, hi, hi', chkAt, c1, g1', g2', g3, g4, h29, h30, c2, e2, hw2, hlt, h0, h0']
          · simp [body11_1, hi, hi', hw3, chkAt, c1, g1', g2', g3, g4, h29, h30, c2, c3, e2, hw2, hlt, h0, h0', hf, hm, hv, hks]
    · simp only [Bool.not_eq_true] at c1
      have hs : (((((decide (l[i].id < 1) || decide (l[i].mandate < 1)) || !amount l[i].amount) || !validD l[i].day) || !keyOk l[i].key) || !fits l[i]) = true := by
        simp only [goodB, Bool.and_eq_false_iff, decide_eq_false_iff_not] at c1
        simp only [Bool.or_eq_true, decide_eq_true_eq, Bool.not_eq_true']
        rcases c1 with c | c | c | c | c | c
        · exact .inl (.inl (.inl (.inl (.inl (by omega)))))
        · exact .inl (.inl (.inl (.inl (.inr (by omega)))))
        · exact .inl (.inl (.inl (.inr c)))
        · exact .inl (.inl (.inr c))
        · exact .inl (.inr c)
        · exact .inr c
      by_cases g1 : l[i].id < 1
      · simp [body11_1, hi, chkAt, c1, g1]
      · by_cases g2 : l[i].mandate < 1
        · simp [body11_1, hi, chkAt, c1, g1, g2]
        · cases g3 : amount l[i].amount with
          | false => simp [body11_1, hi, chkAt, c1, g1, g2, g3]
          | true =>
            cases g4 : validD l[i].day with
            | false => simp [body11_1, hi, chkAt, c1, g1, g2, g3, g4]
            | true =>
              cases g5 : keyOk l[i].key with
              | false => rw [g5] at h29; simp [body11_1, hi, chkAt, c1, g1, g2, g3, g4, h29]
              | true =>
                rw [g5] at h29
                have g6 : fits l[i] = false := by simpa [g1, g2, g3, g4, g5] using hs
                rw [g6] at h30
                simp [body11_1, hi, chkAt, c1, g1, g2, g3, g4, h29, h30]) (by simp [body11_1]) (by simp)
  exact this
theorem e11 (l : List Debit) (hk : KOk l) : O 11 [.l (enc l)] = some (.i .i64 (chk l)) := by
  refine orun (fc := code11) rfl rfl rfl ?_
  unfold chk
  by_cases h : l.length ≤ 64
  · have h' : ¬ (64 : Int) < (l.length : Int) := by omega
    have h2 : ¬ 64 < l.length := by omega
    have hl := l11 l h hk
    cases hq : (List.range l.length).findSome? (chkAt l) <;> rw [hq] at hl <;> simp [code11, exec_loopK, hl, h', h2]
  · have h' : (64 : Int) < (l.length : Int) := by omega
    have h2 : 64 < l.length := by omega
    simp [code11, h', h2]
theorem slc_take (l : List Debit) (i : Nat) (h : i ≤ l.length) : opQ O (.slc 9 false true) [.l (enc l), .i .i64 i] = some (.l (enc (l.take i))) := by
  have hb : bnds (enc l).length false true [.i .i64 (i : Int)] = some (0, i) := by
    have : (i : Int) ≤ ((enc l).length : Int) := by simp; omega
    simp only [bnds]
    rw [if_pos ⟨by omega, this⟩]
    simp
  simp only [opQ, Debit.all_len, if_true, hb, Option.map_some, List.drop_zero]
  simp [enc, encL]
set_option maxHeartbeats 4000000 in
theorem l12 (l : List Debit) (h : l.length ≤ 64) : loopK O [0, 3] body12_1 [(0, .l (enc l)), (3, .i .i64 0)] = some (optE (fun n => (.r, [(2, .i .i64 n)])) (.e 0, []) ((List.range l.length).findSome? (chkAt l))) := by
  have := loopK_code (o := O) (kin := [0, 3]) (c := body12_1) (fun i => [(0, .l (enc l)), (3, .i .i64 i)]) l.length (chkAt l) (fun n => (.r, [(2, .i .i64 n)])) (.e 0, []) (by simp) (by simp) (fun i hi => by
    have hw := wrap_i64 (i + 1) (by omega)
    have h31 := e31 l[i]
    have h32 := e32 l[i]
    have h33 := e33 (l.take i) l[i].key (by simp; omega)
    have hs := slc_take l i (by omega)
    have hsh : goodB l[i] = (shaped l[i] && (decide (1 ≤ l[i].mandate) && fits l[i])) := by
      simp only [goodB, shaped]
      cases decide (1 ≤ l[i].id) <;> cases decide (1 ≤ l[i].mandate) <;> cases amount l[i].amount <;> cases validD l[i].day <;> cases keyOk l[i].key <;> cases fits l[i] <;> rfl
    cases g1 : shaped l[i] with
    | false =>
      rw [g1] at h31 hsh
      simp only [Bool.false_and] at hsh
      simp [body12_1, hi, chkAt, hsh, h31]
    | true =>
      rw [g1] at h31 hsh
      by_cases g2 : 1 ≤ l[i].mandate
      · have g2' : ¬ l[i].mandate < 1 := by omega
        cases g3 : fits l[i] with
        | false =>
          rw [g3] at h32 hsh
          simp only [g2, decide_true, Bool.true_and] at hsh
          simp [body12_1, hi, chkAt, hsh, h31, h32, g2']
        | true =>
          rw [g3] at h32 hsh
          simp only [g2, decide_true, Bool.true_and] at hsh
          cases i with
          | zero =>
            have c3 : l[0].key ∉ keys (l.take 0) := by simp [keys]
            rw [decide_eq_false c3] at h33
            simp only [List.take_zero, enc, encL_nil] at h33 hs c3
            simp only [Int.natCast_zero] at hs
            simp [body12_1, hi, chkAt, hsh, h31, h32, g2', h33, hs, c3, show IntKind.i64.wrap 1 = 1 from rfl]
          | succ i =>
            have hi' : i < l.length := by omega
            have e2 : ((i : Int) + 1) - 1 = i := by omega
            have hw2 := wrap_i64 i (by omega)
            have hlt : (i : Int) + 1 < (l.length : Int) := by omega
            have h0 : (0 : Int) ≤ (i : Int) + 1 := by omega
            have h0' : (0 : Int) < (i : Int) + 1 := by omega
            have hw3 : IntKind.i64.wrap ((i : Int) + 1 + 1) = (i : Int) + 1 + 1 := wrap_i64 _ (by omega)
            simp only [Int.natCast_add, Int.natCast_one] at hs
            by_cases c2 : l[i + 1].id ≤ l[i].id
            · simp [body12_1, hi, hi', chkAt, hsh, h31, h32, g2', c2, e2, hw2, hlt, h0']
            · by_cases c3 : l[i + 1].key ∈ keys (l.take (i + 1))
              · rw [decide_eq_true c3] at h33
                simp [body12_1, hi, hi', chkAt, hsh, h31, h32, g2', c2, c3, e2, hw2, hlt, h0', h33, hs]
              · rw [decide_eq_false c3] at h33
                simp [body12_1, hi, hi', chkAt, hsh, h31, h32, g2', c2, c3, e2, hw2, hlt, h0', h33, hs, hw3]
      · have g2' : l[i].mandate < 1 := by omega
        simp only [g2, decide_false, Bool.false_and, Bool.and_false] at hsh
        simp [body12_1, hi, chkAt, hsh, h31, g2']) (by simp [body12_1]) (by simp)
  exact this
theorem e12 (l : List Debit) : O 12 [.l (enc l)] = some (.i .i64 (chk l)) := by
  refine orun (fc := code12) rfl rfl rfl ?_
  unfold chk
  by_cases h : l.length ≤ 64
  · have h' : ¬ (64 : Int) < (l.length : Int) := by omega
    have h2 : ¬ 64 < l.length := by omega
    have hl := l12 l h
    cases hq : (List.range l.length).findSome? (chkAt l) <;> rw [hq] at hl <;> simp [code12, exec_loopK, hl, h', h2]
  · have h' : (64 : Int) < (l.length : Int) := by omega
    have h2 : 64 < l.length := by omega
    simp [code12, h', h2]
end Go.Proofs.YtoahbbpjhdegoaaDoor
