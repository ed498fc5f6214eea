/-
  What the functions that the laws reach compute: lists of mandates.
-/
import Derived.Test.YtflcddjpnbefhaaSpec
namespace Go.Proofs.Ytflcddjpnbefhaa
open Go.VM
abbrev bytesV (s : List UInt8) : List V := s.map fun c => .i .u8 c.toNat
theorem l25 (s : List UInt8) (h : s.length ≤ 16) : loopK O [23, 24, 25] body25_1 [(23, .l (bytesV s)), (24, .i .i64 s.length), (25, .i .i64 0)] = some (optE (fun _ => (.r, [(2, .b false)])) (.e 0, []) ((List.range s.length).findSome? (badAt s))) := by
  have := loopK_code (o := O) (kin := [23, 24, 25]) (c := body25_1) (fun i => [(23, .l (bytesV s)), (24, .i .i64 s.length), (25, .i .i64 i)]) s.length (badAt s) (fun _ => (.r, [(2, .b false)])) (.e 0, []) (by simp) (by simp) (fun i hi => by
    have hw := wrap_i64 (i + 1) (by omega)
    simp [body25_1, hi, hw, badAt, badByte]) (by simp [body25_1]) (by simp)
  exact this
@[simp] theorem e25 (s : List UInt8) : O 25 [.s s] = some (.b (nameB s)) := by
  refine orun (fc := code25) rfl rfl rfl ?_
  by_cases h1 : 1 ≤ s.length ∧ s.length ≤ 16
  · have h3 : ¬ ((16 : Int) < (s.length : Int)) := by omega
    have h0 : 0 < s.length := by omega
    have hne : s ≠ [] := by intro e; subst e; simp at h0
    have hl := l25 s h1.2
    by_cases h4 : (97 : Int) ≤ (s[0].toNat : Int) ∧ (s[0].toNat : Int) ≤ 122
    · have h5 : ¬ ((s[0].toNat : Int) < 97) := by omega
      have h6 : ¬ ((122 : Int) < (s[0].toNat : Int)) := by omega
      cases hq : (List.range s.length).findSome? (badAt s) <;> rw [hq] at hl <;> simp [code25, exec_loopK, hl, nameB, h1, h3, h0, hne, h4, h5, h6, hq]
    · have h5 : (s[0].toNat : Int) < 97 ∨ (122 : Int) < (s[0].toNat : Int) := by omega
      simp [code25, nameB, h1, h3, h0, hne, h5]
      omega
  · by_cases hne : s = []
    · subst hne; simp [code25, nameB]
    · have h2 : (16 : Int) < (s.length : Int) := by
        have : 0 < s.length := List.length_pos_iff.2 hne
        omega
      simp [code25, nameB, h2, hne]
      omega
def placeAt (l : List Mandate) (id : Int) (i : Nat) : Option Nat := match l[i]? with
  | some m => if m.id = id then some i else none
  | none => none
/-- The first mandate with this Id. -/
def pos (l : List Mandate) (id : Int) : Option Nat := (List.range l.length).findSome? (placeAt l id)
theorem pos_some {l : List Mandate} {id : Int} {i : Nat} (h : pos l id = some i) : ∃ hi : i < l.length, l[i].id = id := by
  unfold pos at h
  obtain ⟨k, hk, hp⟩ := List.exists_of_findSome?_eq_some h
  have hk' : k < l.length := List.mem_range.1 hk
  simp [placeAt, hk'] at hp
  obtain ⟨h1, rfl⟩ := hp
  exact ⟨hk', h1⟩
theorem l30 (l : List Mandate) (id : Int) (h : l.length ≤ 1000) : loopK O [0, 1, 5] body30_1 [(0, .l (enc l)), (1, .i .i64 id), (5, .i .i64 0)] = some (optE (fun (i : Nat) => (.r, [(4, .i .i64 i)])) (.e 0, []) (pos l id)) := by
  have := loopK_code (o := O) (kin := [0, 1, 5]) (c := body30_1) (fun i => [(0, .l (enc l)), (1, .i .i64 id), (5, .i .i64 i)]) l.length (placeAt l id) (fun (i : Nat) => (.r, [(4, .i .i64 i)])) (.e 0, []) (by simp) (by simp) (fun i hi => by
    have hw := wrap_i64 (i + 1) (by omega)
    simp [body30_1, hi, hw, placeAt]) (by simp [body30_1]) (by simp)
  exact this
def posV : Option Nat → V
  | some i => .i .i64 i
  | none => .i .i64 (-1)
theorem e30 (l : List Mandate) (id : Int) (h : l.length ≤ 1000) : O 30 [.l (enc l), .i .i64 id] = some (posV (pos l id)) := by
  refine orun (fc := code30) rfl rfl rfl ?_
  have hl := l30 l id h
  cases hp : pos l id <;> rw [hp] at hl <;> simp [code30, exec_loopK, hl, posV]
@[simp] theorem e39 (m : Mandate) (id : Int) : O 39 [m.v, .r [.i .i64 id]] = some (.b (decide (m.id = id))) := by
  refine orun (fc := code39) rfl rfl rfl ?_; simp [code39]
theorem l38 (l : List Mandate) (id : Int) (h : l.length ≤ 1000) : loopK O [1, 8, 9, 10] body38_1 [(1, .f (.func 39) [] [.r [.i .i64 id]]), (8, .l (enc l)), (9, .i .i64 l.length), (10, .i .i64 0)] = some (optE (fun (i : Nat) => (.r, [(4, .i .i64 i), (5, .b true)])) (.e 0, []) (pos l id)) := by
  have := loopK_code (o := O) (kin := [1, 8, 9, 10]) (c := body38_1) (fun i => [(1, .f (.func 39) [] [.r [.i .i64 id]]), (8, .l (enc l)), (9, .i .i64 l.length), (10, .i .i64 i)]) l.length (placeAt l id) (fun (i : Nat) => (.r, [(4, .i .i64 i), (5, .b true)])) (.e 0, []) (by simp) (by simp) (fun i hi => by
    have hw := wrap_i64 (i + 1) (by omega)
    simp [body38_1, hi, hw, placeAt]) (by simp [body38_1]) (by simp)
  exact this
def findV : Option Nat → V
  | some i => .t [.i .i64 i, .b true]
  | none => .t [.i .i64 0, .b false]
theorem e38 (l : List Mandate) (id : Int) (h : l.length ≤ 1000) : O 38 [.l (enc l), .f (.func 39) [] [.r [.i .i64 id]]] = some (findV (pos l id)) := by
  refine orun (fc := code38) rfl rfl rfl ?_
  have hl := l38 l id h
  cases hp : pos l id <;> rw [hp] at hl <;> simp [code38, exec_loopK, hl, findV]
theorem e29 (l : List Mandate) (id : Int) (h : l.length ≤ 1000) : O 29 [.l (enc l), .i .i64 id] = some (findV (pos l id)) := by
  refine orun (fc := code29) rfl rfl rfl ?_
  have h38 := e38 l id h
  cases hp : pos l id <;> rw [hp] at h38 <;> simp [findV] at h38 <;> simp [code29, h38, findV]
/-- What is wrong with mandate i. -/
def cd (l : List Mandate) (i : Nat) : Option Int := match l[i]? with
  | some m => if good m = false then some 1 else if nameB m.creditor = false then some 4 else if 0 < i ∧ m.id ≤ (l[i - 1]?.map Mandate.id).getD 0 then some 10 else none
  | none => none
def chk (l : List Mandate) : Int := if 64 < l.length then 5 else optE (fun n => n) 0 ((List.range l.length).findSome? (cd l))
theorem l11 (l : List Mandate) (h : l.length ≤ 64) : loopK O [0, 3] body11_1 [(0, .l (enc l)), (3, .i .i64 0)] = some (optE (fun n => (.r, [(2, .i .i64 n)])) (.e 0, []) ((List.range l.length).findSome? (cd l))) := by
  have := loopK_code (o := O) (kin := [0, 3]) (c := body11_1) (fun i => [(0, .l (enc l)), (3, .i .i64 i)]) l.length (cd l) (fun n => (.r, [(2, .i .i64 n)])) (.e 0, []) (by simp) (by simp) (fun i hi => by
    have hw := wrap_i64 (i + 1) (by omega)
    cases i with
    | zero => simp at hw; simp [body11_1, hi, hw, cd]
    | succ j =>
      have hj : j < l.length := by omega
      have hw0 := wrap_i64 (j : Int) (by omega)
      have hw2 := wrap_i64 ((j : Int) + 1 + 1) (by omega)
      have f1 : (j : Int) + 1 < (l.length : Int) := by omega
      simp [body11_1, hi, hj, hw0, hw2, f1, cd]) (by simp [body11_1]) (by simp)
  exact this
theorem e11 (l : List Mandate) : O 11 [.l (enc l)] = some (.i .i64 (chk l)) := by
  refine orun (fc := code11) rfl rfl rfl ?_
  by_cases h : 64 < l.length
  · have h2 : (64 : Int) < (l.length : Int) := by omega
    simp [code11, chk, h, h2]
  · have h2 : ¬ ((64 : Int) < (l.length : Int)) := by omega
    have hl := l11 l (by omega)
    cases hq : (List.range l.length).findSome? (cd l) <;> rw [hq] at hl <;> simp [code11, exec_loopK, chk, h, h2, hl, hq]
theorem l10 (l : List Mandate) (h : l.length ≤ 64) : loopK O [0, 8, 9, 10] body10_1 [(0, .l (enc l)), (8, .l (enc l)), (9, .i .i64 l.length), (10, .i .i64 0)] = some (optE (fun n => (.r, [(2, .i .i64 n)])) (.e 0, []) ((List.range l.length).findSome? (cd l))) := by
  have := loopK_code (o := O) (kin := [0, 8, 9, 10]) (c := body10_1) (fun i => [(0, .l (enc l)), (8, .l (enc l)), (9, .i .i64 l.length), (10, .i .i64 i)]) l.length (cd l) (fun n => (.r, [(2, .i .i64 n)])) (.e 0, []) (by simp) (by simp) (fun i hi => by
    have hw := wrap_i64 (i + 1) (by omega)
    cases i with
    | zero => simp at hw; simp [body10_1, hi, hw, cd]
    | succ j =>
      have hj : j < l.length := by omega
      have hw0 := wrap_i64 (j : Int) (by omega)
      have hw2 := wrap_i64 ((j : Int) + 1 + 1) (by omega)
      have f1 : (j : Int) + 1 < (l.length : Int) := by omega
      simp [body10_1, hi, hj, hw0, hw2, f1, cd]) (by simp [body10_1]) (by simp)
  exact this
theorem e10 (l : List Mandate) : O 10 [.l (enc l)] = some (.i .i64 (chk l)) := by
  refine orun (fc := code10) rfl rfl rfl ?_
  by_cases h : 64 < l.length
  · have h2 : (64 : Int) < (l.length : Int) := by omega
    simp [code10, chk, h, h2]
  · have h2 : ¬ ((64 : Int) < (l.length : Int)) := by omega
    have hl := l10 l (by omega)
    cases hq : (List.range l.length).findSome? (cd l) <;> rw [hq] at hl <;> simp [code10, exec_loopK, chk, h, h2, hl, hq]
/-- Creditor i's text is too long. -/
def longAt (l : List Mandate) (i : Nat) : Option Unit := match l[i]? with
  | some m => if (100 : Int) < (m.creditor.length : Int) then some () else none
  | none => none
def shortB (l : List Mandate) : Bool := optE (fun _ => false) (decide ((l.length : Int) ≤ 100)) ((List.range (min l.length 101)).findSome? (longAt l))
theorem l9 (l : List Mandate) : loopK O [0, 3] body9_1 [(0, .l (enc l)), (3, .i .i64 0)] = some (optE (fun _ => (.r, [(2, .b false)])) (.e 0, [(0, .l (enc l))]) ((List.range (min l.length 101)).findSome? (longAt l))) := by
  have := loopK_code (o := O) (kin := [0, 3]) (c := body9_1) (fun i => [(0, .l (enc l)), (3, .i .i64 i)]) (min l.length 101) (longAt l) (fun _ => (.r, [(2, .b false)])) (.e 0, [(0, .l (enc l))]) (by simp) (by simp) (fun i hi => by
    have hw := wrap_i64 (i + 1) (by omega)
    have hi' : i < l.length := by omega
    have hi2 : (i : Int) < (l.length : Int) := by omega
    have hi3 : (i : Int) < 101 := by omega
    simp [body9_1, hi', hi2, hi3, hw, longAt]) (by
    have : ¬ ((((min l.length 101 : Nat) : Int) < (l.length : Int)) ∧ ((min l.length 101 : Nat) : Int) < 101) := by omega
    generalize ((min l.length 101 : Nat) : Int) = k at this
    simp [body9_1, this]) (by simp)
  exact this
@[simp] theorem e9 (l : List Mandate) : O 9 [.l (enc l)] = some (.b (shortB l)) := by
  refine orun (fc := code9) rfl rfl rfl ?_
  have hl := l9 l
  cases hq : (List.range (min l.length 101)).findSome? (longAt l) <;> rw [hq] at hl <;> simp [code9, exec_loopK, shortB, hl, hq]
theorem short_len {l : List Mandate} (h : shortB l = true) : l.length ≤ 100 := by
  unfold shortB at h
  cases hq : (List.range (min l.length 101)).findSome? (longAt l) <;> rw [hq] at h <;> simp at h
  omega
theorem l15 (l : List Mandate) (h : l.length ≤ 101) : loopK O [0, 1, 5] body15_1 [(0, .l (enc l)), (1, .l (enc l)), (5, .i .i64 0)] = some (.e 0, []) :=
  loopK_run (o := O) (kin := [0, 1, 5]) (c := body15_1) (fun i => [(0, .l (enc l)), (1, .l (enc l)), (5, .i .i64 i)]) l.length (.e 0, []) (by simp) (fun i hi => by
    have hw := wrap_i64 (i + 1) (by omega)
    simp [body15_1, hi, hw]) (by simp [body15_1]) (by simp)
/-- A list is equal to itself. -/
@[simp] theorem e15 (l : List Mandate) (h : l.length ≤ 101) : O 15 [.l (enc l), .l (enc l)] = some (.b true) := by
  refine orun (fc := code15) rfl rfl rfl ?_
  simp [code15, exec_loopK, l15 l h]
def moreB (a b : Int) : Bool := decide (b < a) && decide ((1096 : Int) < IntKind.u64.wrap (IntKind.u64.wrap a - IntKind.u64.wrap b))
@[simp] theorem e31 (a b : Int) : O 31 [.i .i64 a, .i .i64 b, .i .i64 1096] = some (.b (moreB a b)) := by
  refine orun (fc := code31) rfl rfl rfl ?_
  simp [code31, moreB, IntWalk.u64_in 1096 (by omega)]
def expired (m : Mandate) (d : Int) : Bool := moreB d (if m.used = 0 then m.signed else m.used)
@[simp] theorem e20 (m : Mandate) (d : Int) : O 20 [m.v, .i .i64 d] = some (.b (expired m d)) := by
  refine orun (fc := code20) rfl rfl rfl ?_
  by_cases h : m.used = 0 <;> simp [code20, expired, h]
@[simp] theorem e21 (m : Mandate) (d : Int) : O 21 [m.v, .i .i64 d] = some (.b (expired m d)) := by
  refine orun (fc := code21) rfl rfl rfl ?_
  by_cases h : m.used = 0 <;> simp [code21, expired, moreB, h]
def allowM (m : Mandate) (a d : Int) : Int := if (m.revoked ≠ 0 ∧ m.revoked ≤ d) ∨ d < m.signed then 17 else if expired m d = true then 23 else if m.limit ≠ 0 ∧ m.limit < a then 18 else 0
def allow (l : List Mandate) (id a d : Int) : Int := match (pos l id).bind (l[·]?) with
  | some m => allowM m a d
  | none => 11
theorem e22 (l : List Mandate) (id a d : Int) (h : l.length ≤ 1000) : O 22 [.l (enc l), .i .i64 id, .i .i64 a, .i .i64 d] = some (.i .i64 (allow l id a d)) := by
  refine orun (fc := code22) rfl rfl rfl ?_
  have h29 := e29 l id h
  cases hp : pos l id with
  | none => rw [hp] at h29; simp [findV] at h29; simp [code22, h29, allow, hp]
  | some i =>
    obtain ⟨hi, _⟩ := pos_some hp
    rw [hp] at h29; simp [findV] at h29
    simp [code22, h29, allow, hp, hi, allowM]
theorem e23 (l : List Mandate) (id a d : Int) (h : l.length ≤ 1000) : O 23 [.l (enc l), .i .i64 id, .i .i64 a, .i .i64 d] = some (.i .i64 (allow l id a d)) := by
  refine orun (fc := code23) rfl rfl rfl ?_
  have h30 := e30 l id h
  cases hp : pos l id with
  | none => rw [hp] at h30; simp [posV] at h30; simp [code23, h30, allow, hp]
  | some i =>
    obtain ⟨hi, _⟩ := pos_some hp
    rw [hp] at h30; simp [posV] at h30
    simp [code23, h30, allow, hp, hi, allowM]
end Go.Proofs.Ytflcddjpnbefhaa
