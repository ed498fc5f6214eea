/-
  What the functions that the laws reach compute: names, what is found, paths in the chart.
-/
import Derived.Test.YtdlpbedneamebaaGreatDoorTypes
import Derived.Test.YtdlpbedneamebaaGreatDoorVmU
namespace Go.Proofs.YtdlpbedneamebaaGreatDoor
open Go.VM
noncomputable def O (X : Orc) : Orc := den tab X
variable {X : Orc}
theorem orun {f : Nat} {fc : FCode} (ht : tab f = some fc) {args : List V} {y : V} (hl : args.length = fc.np) (ha : args.all V.arg = true) (h : retE fc.res (exec (O X) fc.body (args0 0 args)) = some y) : O X f args = some y := VM.run ht hl ha h
/-! ### Names -/
def letter (c : Int) : Bool := decide (97 ≤ c) && decide (c ≤ 122)
def badN (s : List UInt8) (i : Nat) : Option Unit := match s[i]? with
  | some c => if letter (c.toNat : Int) = false ∧ (i = 0 ∨ ((c.toNat : Int) ≠ 95 ∧ ((c.toNat : Int) < 48 ∨ 57 < (c.toNat : Int)))) then some () else none
  | none => none
def noBad (s : List UInt8) : Bool := ((List.range s.length).findSome? (badN s)).isNone
def nameOk (s : List UInt8) : Bool := noBad s && (decide (1 ≤ s.length) && decide (s.length ≤ 16))
theorem l48 (s : List UInt8) (h : s.length ≤ maxLen) : loopK (O X) [0, 7, 8] body48_1 [(0, .s s), (7, .i .i64 s.length), (8, .i .i64 0)] = some (optE (fun _ => (.r, [(2, .b false)])) (.e 0, [(0, .s s)]) ((List.range s.length).findSome? (badN s))) := by
  have := loopK_code (o := O X) (kin := [0, 7, 8]) (c := body48_1) (fun i => [(0, .s s), (7, .i .i64 s.length), (8, .i .i64 i)]) s.length (badN s) (fun _ => (.r, [(2, .b false)])) (.e 0, [(0, .s s)]) (by simp) (by simp) (fun i hi => by
    have hw := wrap_i64 (i + 1) (by simp only [maxLen] at h; omega)
    have hi0 : ((i : Int) = 0) ↔ i = 0 := by omega
    generalize hx : s[i] = x
    by_cases h1 : (97 : Int) ≤ (x.toNat : Int)
    · by_cases h2 : (x.toNat : Int) ≤ 122
      · simp [body48_1, hi, hw, badN, letter, hx, h1, h2]
      · by_cases h0 : i = 0
        · subst h0; simp [body48_1, hi, badN, letter, hx, h1, h2]
        · have h3 : ¬ (x.toNat : Int) = 95 := by omega
          have h4 : ¬ (x.toNat : Int) < 48 := by omega
          have h5 : (57 : Int) < (x.toNat : Int) := by omega
          simp [body48_1, hi, badN, letter, hx, h1, h2, h0, h3, h4, h5]
    · by_cases h0 : i = 0
      · subst h0; simp [body48_1, hi, badN, letter, hx, h1]
      · by_cases h3 : (x.toNat : Int) = 95
        · simp [body48_1, hi, hw, badN, letter, hx, h0, h3]
        · by_cases h4 : (x.toNat : Int) < 48
          · simp [body48_1, hi, badN, letter, hx, h1, h0, h3, h4]
          · by_cases h5 : (57 : Int) < (x.toNat : Int) <;> simp [body48_1, hi, hw, badN, letter, hx, h1, h0, h3, h4, h5]) (by simp [body48_1]) (by simp)
  exact this
theorem e48 (s : List UInt8) (h : s.length ≤ maxLen) : O X 48 [.s s] = some (.b (nameOk s)) := by
  refine orun (fc := code48) rfl rfl rfl ?_
  have hl := l48 (X := X) s h
  have h1 : (1 : Int) ≤ (s.length : Int) ↔ 1 ≤ s.length := by omega
  have h2 : (s.length : Int) ≤ 16 ↔ s.length ≤ 16 := by omega
  cases hq : (List.range s.length).findSome? (badN s) <;> rw [hq] at hl <;> simp [code48, exec_loopK, hl, nameOk, noBad, hq, h1, h2]
def badM (s : List UInt8) (i : Nat) : Option Unit := match s[i]? with
  | some c => if letter (c.toNat : Int) = false ∧ ((c.toNat : Int) ≠ 95 ∧ ((c.toNat : Int) < 48 ∨ 57 < (c.toNat : Int))) then some () else none
  | none => none
theorem l273 (s : List UInt8) (h : s.length ≤ 16) : loopK (O X) [0, 3] body273_1 [(0, .s s), (3, .i .i64 0)] = some (optE (fun _ => (.r, [(2, .b false)])) (.e 0, []) ((List.range s.length).findSome? (badM s))) := by
  have := loopK_code (o := O X) (kin := [0, 3]) (c := body273_1) (fun i => [(0, .s s), (3, .i .i64 i)]) s.length (badM s) (fun _ => (.r, [(2, .b false)])) (.e 0, []) (by simp) (by simp) (fun i hi => by
    have hw := wrap_i64 (i + 1) (by omega)
    generalize hx : s[i] = x
    by_cases h1 : (x.toNat : Int) < 97
    · have h1' : ¬ (97 : Int) ≤ (x.toNat : Int) := by omega
      by_cases h4 : (x.toNat : Int) < 48
      · have h3 : ¬ (x.toNat : Int) = 95 := by omega
        simp [body273_1, hi, badM, letter, hx, h1, h1', h3, h4]
      · by_cases h5 : (57 : Int) < (x.toNat : Int)
        · by_cases h3 : (x.toNat : Int) = 95 <;> simp [body273_1, hi, hw, badM, letter, hx, h1, h1', h3, h4, h5]
        · have h3 : ¬ (x.toNat : Int) = 95 := by omega
          simp [body273_1, hi, hw, badM, letter, hx, h1, h1', h3, h4, h5]
    · have h1' : (97 : Int) ≤ (x.toNat : Int) := by omega
      by_cases h2 : (x.toNat : Int) ≤ 122
      · have h2' : ¬ (122 : Int) < (x.toNat : Int) := by omega
        simp [body273_1, hi, hw, badM, letter, hx, h1, h1', h2, h2']
      · have h2' : (122 : Int) < (x.toNat : Int) := by omega
        have h3 : ¬ (x.toNat : Int) = 95 := by omega
        have h4 : ¬ (x.toNat : Int) < 48 := by omega
        have h5 : (57 : Int) < (x.toNat : Int) := by omega
        simp [body273_1, hi, badM, letter, hx, h1, h1', h2, h2', h3, h4, h5]) (by simp [body273_1]) (by simp)
  exact this
theorem noBad_iff {s : List UInt8} (h0 : 0 < s.length) : noBad s = (letter (s[0].toNat : Int) && ((List.range s.length).findSome? (badM s)).isNone) := by
  rw [Bool.eq_iff_iff]
  unfold noBad
  rw [Option.isNone_iff_eq_none, Bool.and_eq_true, Option.isNone_iff_eq_none, range_find_none, range_find_none]
  constructor
  · intro h
    refine ⟨?_, fun i hi => ?_⟩
    · have := h 0 h0
      simp only [badN, List.getElem?_eq_getElem h0, true_or, and_true] at this
      cases hq : letter (s[0].toNat : Int) with
      | true => rfl
      | false => rw [hq] at this; simp at this
    · have := h i hi
      simp only [badN, badM, List.getElem?_eq_getElem hi] at this ⊢
      split at this
      · cases this
      · rename_i hn
        rw [if_neg fun hc => hn ⟨hc.1, .inr hc.2⟩]
  · rintro ⟨h1, h2⟩ i hi
    have := h2 i hi
    simp only [badN, badM, List.getElem?_eq_getElem hi] at this ⊢
    split at this
    · cases this
    · rename_i hn
      rw [if_neg]
      rintro ⟨hc1, hc2 | hc2⟩
      · subst hc2; rw [h1] at hc1; cases hc1
      · exact hn ⟨hc1, hc2⟩
theorem e273 (s : List UInt8) : O X 273 [.s s] = some (.b (nameOk s)) := by
  refine orun (fc := code273) rfl rfl rfl ?_
  unfold nameOk
  by_cases h0 : s.length < 1
  · have h0' : (s.length : Int) < 1 := by omega
    have h1 : ¬ 1 ≤ s.length := by omega
    simp [code273, h0', h1]
  · have h0' : ¬ (s.length : Int) < 1 := by omega
    have h1 : 1 ≤ s.length := by omega
    have hp : 0 < s.length := by omega
    by_cases h2 : 16 < s.length
    · have h2' : (16 : Int) < (s.length : Int) := by omega
      have h3 : ¬ s.length ≤ 16 := by omega
      simp [code273, h0', h2', h3]
    · have h2' : ¬ (16 : Int) < (s.length : Int) := by omega
      have h3 : s.length ≤ 16 := by omega
      rw [noBad_iff hp]
      have hl := l273 (X := X) s h3
      generalize hx : s[0] = x
      have hp' : (0 : Int) < (s.length : Int) := by omega
      by_cases k1 : (x.toNat : Int) < 97
      · have k1' : ¬ (97 : Int) ≤ (x.toNat : Int) := by omega
        simp [code273, h0', h2', hp, hx, k1, letter, k1']
      · have k1' : (97 : Int) ≤ (x.toNat : Int) := by omega
        by_cases k2 : (122 : Int) < (x.toNat : Int)
        · have k2' : ¬ (x.toNat : Int) ≤ 122 := by omega
          simp [code273, h0', h2', hp, hx, k1, k2, letter, k2']
        · have k2' : (x.toNat : Int) ≤ 122 := by omega
          cases hq : (List.range s.length).findSome? (badM s) <;> rw [hq] at hl <;> simp [code273, h0', h2', hp, hx, k1, k2, letter, k1', k2', exec_loopK, hl, h1, h3]

/-! ### What is found -/
abbrev encG (l : List Gl) : List V := encL Gl.v l
abbrev encA (l : List Account) : List V := encL Account.v l
abbrev encC (l : List Currency) : List V := encL Currency.v l
abbrev encE (l : List Entry) : List V := encL Entry.v l
abbrev encR (l : List Row) : List V := encL Row.v l
def gAt (l : List Gl) (id : Int) (i : Nat) : Option Gl := match l[i]? with
  | some g => if g.id = id then some g else none
  | none => none
def findG (l : List Gl) (id : Int) : Option Gl := (List.range l.length).findSome? (gAt l id)
def g0 : Gl := ⟨0, 0, 0, []⟩
def gV : Option Gl → V
  | some g => .t [g.v, .b true]
  | none => .t [g0.v, .b false]
theorem l90 (l : List Gl) (id : Int) (h : l.length ≤ 1000) : loopK (O X) [1, 4, 8, 9, 10] body90_1 [(1, .i .i64 id), (4, .bx g0.cells), (8, .l (encG l)), (9, .i .i64 l.length), (10, .i .i64 0)] = some (optE (fun g => (.r, [(4, .bx g.cells), (5, .b true)])) (.e 0, [(4, .bx g0.cells)]) (findG l id)) := by
  have := loopK_code (o := O X) (kin := [1, 4, 8, 9, 10]) (c := body90_1) (fun i => [(1, .i .i64 id), (4, .bx g0.cells), (8, .l (encG l)), (9, .i .i64 l.length), (10, .i .i64 i)]) l.length (gAt l id) (fun g => (.r, [(4, .bx g.cells), (5, .b true)])) (.e 0, [(4, .bx g0.cells)]) (by simp) (by simp) (fun i hi => by
    have hw := wrap_i64 (i + 1) (by omega)
    by_cases hc : l[i].id = id <;> simp [body90_1, hi, hw, gAt, hc]) (by simp [body90_1]) (by simp)
  exact this
@[simp] theorem e90 (l : List Gl) (id : Int) (h : l.length ≤ 1000) : O X 90 [.l (encG l), .i .i64 id] = some (gV (findG l id)) := by
  refine orun (fc := code90) rfl rfl rfl ?_
  have hl := l90 (X := X) l id h
  cases hq : findG l id <;> rw [hq] at hl <;> simp [g0] at hl <;> simp [code90, exec_loopK, hl, gV, g0]
theorem l77 (l : List Gl) (id : Int) (h : l.length ≤ 1000) : loopK (O X) [0, 1, 4, 6] body77_1 [(0, .l (encG l)), (1, .i .i64 id), (4, .bx g0.cells), (6, .i .i64 0)] = some (optE (fun g => (.r, [(4, .bx g.cells), (5, .b true)])) (.e 0, [(4, .bx g0.cells)]) (findG l id)) := by
  have := loopK_code (o := O X) (kin := [0, 1, 4, 6]) (c := body77_1) (fun i => [(0, .l (encG l)), (1, .i .i64 id), (4, .bx g0.cells), (6, .i .i64 i)]) l.length (gAt l id) (fun g => (.r, [(4, .bx g.cells), (5, .b true)])) (.e 0, [(4, .bx g0.cells)]) (by simp) (by simp) (fun i hi => by
    have hw := wrap_i64 (i + 1) (by omega)
    by_cases hc : l[i].id = id <;> simp [body77_1, hi, hw, gAt, hc]) (by simp [body77_1]) (by simp)
  exact this
@[simp] theorem e77 (l : List Gl) (id : Int) (h : l.length ≤ 1000) : O X 77 [.l (encG l), .i .i64 id] = some (gV (findG l id)) := by
  refine orun (fc := code77) rfl rfl rfl ?_
  have hl := l77 (X := X) l id h
  cases hq : findG l id <;> rw [hq] at hl <;> simp [g0] at hl <;> simp [code77, exec_loopK, hl, gV, g0]
/-! ### Paths -/
def pathN (l : List Gl) : Nat → Option Gl → List Int
  | 0, _ => []
  | _ + 1, none => []
  | n + 1, some g => g.id :: (if g.parent = 0 then [] else pathN l n (findG l g.parent))
theorem pathN_len (l : List Gl) : ∀ (n : Nat) (og : Option Gl), (pathN l n og).length ≤ n
  | 0, _ => by simp [pathN]
  | n + 1, none => by simp [pathN]
  | n + 1, some g => by
    unfold pathN
    have := pathN_len l n (findG l g.parent)
    split <;> simp <;> omega
def path (l : List Gl) (id : Int) : List Int := (pathN l 40 (findG l id)).reverse
def cellsOf : Option Gl → List V
  | some g => g.cells
  | none => g0.cells
theorem ints_snoc (l : List Int) (k : Int) : ints l ++ [.i .i64 k] = ints (l ++ [k]) := by simp [encL]
abbrev E49 (l : List Gl) (acc : List Int) (og : Option Gl) : Env := [(0, .l (encG l)), (5, .ow 3 (ints acc)), (6, .bx (cellsOf og)), (7, .b og.isSome)]
theorem l141 (l : List Gl) (h : l.length ≤ 1000) : ∀ (n : Nat) (acc : List Int) (og : Option Gl), acc.length + n = 40 → loopK (O X) [0, 5, 6, 7] body141_1 (E49 l acc og) = some (.e 0, [(5, .ow 3 (ints (acc ++ pathN l n og)))])
  | 0, acc, og, hn => by
    have h1 : ¬ (acc.length : Int) < 40 := by omega
    refine loopK_end (by simp) ?_ (by simp)
    cases og <;> simp [body141_1, pathN, h1]
  | n + 1, acc, none, hn => by
    refine loopK_end (by simp) ?_ (by simp)
    simp [body141_1, pathN]
  | n + 1, acc, some g, hn => by
    have h1 : (acc.length : Int) < 40 := by omega
    have h2 : (acc.length + 1) * 8 ≤ 140737488355328 := by omega
    have hs := ints_snoc acc g.id
    by_cases hp : g.parent = 0
    · refine loopK_end (by simp) ?_ (by simp)
      simp [body141_1, pathN, h1, h2, hp, hs, cellsOf]
    · have ih := l141 l h n (acc ++ [g.id]) (findG l g.parent) (by simp; omega)
      rw [pathN, if_neg hp, List.append_cons, ← ih]
      refine loopK_go (by simp) (by simp) ?_
      have hf := e90 (X := X) l g.parent h
      cases hq : findG l g.parent <;> rw [hq] at hf <;> simp [gV, g0] at hf <;> simp [body141_1, h1, h2, hp, hs, cellsOf, hf, g0]
@[simp] theorem e141 (l : List Gl) (id : Int) (h : l.length ≤ 1000) : O X 141 [.l (encG l), .i .i64 id] = some (.ow 3 (ints (path l id))) := by
  refine orun (fc := code141) rfl rfl rfl ?_
  have hl := l141 (X := X) l h 40 [] (findG l id) rfl
  have hf := e90 (X := X) l id h
  have hlen := pathN_len l 40 (findG l id)
  have h56 : mutOf 184 = ⟨3, false, false, revRun, 0⟩ := rfl
  have hpath : path l id = (pathN l 40 (findG l id)).reverse := rfl
  rw [List.nil_append] at hl
  generalize pathN l 40 (findG l id) = p at hl hlen hpath
  rw [hpath]
  have hr : (ints p).reverse = ints p.reverse := by simp [encL]
  have hlen' : p.length ≤ 1000000 := by omega
  cases hq : findG l id <;> rw [hq] at hf hl <;> simp [E49, gV, g0, cellsOf] at hf hl <;> simp [code141, exec_loopK, hl, hf, h56, revRun, hlen']
def iAt (l : List Int) (x : Int) (i : Nat) : Option Nat := match l[i]? with
  | some y => if x = y then some i else none
  | none => none
def posI (l : List Int) (x : Int) : Option Nat := (List.range l.length).findSome? (iAt l x)
def posV : Option Nat → V
  | some i => .i .i64 i
  | none => .i .i64 (-1)
theorem l183 (l : List Int) (x : Int) (h : l.length ≤ 1000) : loopK (O X) [0, 1, 7, 8] body183_1 [(0, .l (ints l)), (1, .i .i64 x), (7, .i .i64 l.length), (8, .i .i64 0)] = some (optE (fun (i : Nat) => (.r, [(4, .i .i64 i)])) (.e 0, []) (posI l x)) := by
  have := loopK_code (o := O X) (kin := [0, 1, 7, 8]) (c := body183_1) (fun i => [(0, .l (ints l)), (1, .i .i64 x), (7, .i .i64 l.length), (8, .i .i64 i)]) l.length (iAt l x) (fun (i : Nat) => (.r, [(4, .i .i64 i)])) (.e 0, []) (by simp) (by simp) (fun i hi => by
    have hw := wrap_i64 (i + 1) (by omega)
    by_cases hc : x = l[i] <;> simp [body183_1, hi, hw, iAt, hc]) (by simp [body183_1]) (by simp)
  exact this
@[simp] theorem e183 (l : List Int) (x : Int) (h : l.length ≤ 1000) : O X 183 [.l (ints l), .i .i64 x] = some (posV (posI l x)) := by
  refine orun (fc := code183) rfl rfl rfl ?_
  have hl := l183 (X := X) l x h
  cases hq : posI l x <;> rw [hq] at hl <;> simp [code183, exec_loopK, hl, posV]
@[simp] theorem e140 (l : List Int) (x : Int) (h : l.length ≤ 1000) : O X 140 [.l (ints l), .i .i64 x] = some (.b (posI l x).isSome) := by
  refine orun (fc := code140) rfl rfl rfl ?_
  have hl := e183 (X := X) l x h
  cases hq : posI l x <;> rw [hq] at hl <;> simp [posV] at hl <;> simp [code140, hl]
theorem path_len (l : List Gl) (id : Int) : (path l id).length ≤ 40 := by unfold path; rw [List.length_reverse]; exact pathN_len _ _ _
def under (l : List Gl) (id root : Int) : Bool := (posI (path l id) root).isSome
@[simp] theorem e91 (l : List Gl) (id root : Int) (h : l.length ≤ 1000) : O X 91 [.l (encG l), .i .i64 id, .i .i64 root] = some (.b (under l id root)) := by
  refine orun (fc := code91) rfl rfl rfl ?_
  have h1 := e141 (X := X) l id h
  have h2 := e140 (X := X) (path l id) root (by have := path_len l id; omega)
  unfold under
  generalize path l id = p at h1 h2
  simp [code91, h1, h2]
end Go.Proofs.YtdlpbedneamebaaGreatDoor
namespace Go.Proofs.YtdlpbedneamebaaGreatDoor
open Go.VM
variable {X : Orc}
/-! ### Accounts -/
def aAt (l : List Account) (id : Int) (i : Nat) : Option Nat := match l[i]? with
  | some a => if a.id = id then some i else none
  | none => none
def posA (l : List Account) (id : Int) : Option Nat := (List.range l.length).findSome? (aAt l id)
theorem posA_some {l : List Account} {id : Int} {i : Nat} (h : posA l id = some i) : ∃ hi : i < l.length, l[i].id = id := by
  unfold posA at h
  obtain ⟨k, hk, hp⟩ := List.exists_of_findSome?_eq_some h
  have hk' : k < l.length := List.mem_range.1 hk
  simp [aAt, hk'] at hp
  obtain ⟨h1, rfl⟩ := hp
  exact ⟨hk', h1⟩
def a0 : Account := ⟨0, 0, 0, 0, [], [], []⟩
def aV (l : List Account) : Option Nat → V
  | some i => match l[i]? with
    | some a => .t [a.v, .b true]
    | none => .t [a0.v, .b false]
  | none => .t [a0.v, .b false]
theorem e153 (a : Account) (id : Int) : O X 153 [a.v, .r [.i .i64 id]] = some (.b (decide (a.id = id))) := by
  refine orun (fc := code153) rfl rfl rfl ?_; simp [code153]
theorem l152 (l : List Account) (id : Int) (h : l.length ≤ 1000) : loopK (O X) [0, 1, 7, 8] body152_1 [(0, .l (encA l)), (1, .f (.func 153) [] [.r [.i .i64 id]]), (7, .i .i64 l.length), (8, .i .i64 0)] = some (optE (fun (i : Nat) => (.r, [(4, .i .i64 i)])) (.e 0, []) (posA l id)) := by
  have := loopK_code (o := O X) (kin := [0, 1, 7, 8]) (c := body152_1) (fun i => [(0, .l (encA l)), (1, .f (.func 153) [] [.r [.i .i64 id]]), (7, .i .i64 l.length), (8, .i .i64 i)]) l.length (aAt l id) (fun (i : Nat) => (.r, [(4, .i .i64 i)])) (.e 0, []) (by simp) (by simp) (fun i hi => by
    have hw := wrap_i64 (i + 1) (by omega)
    have h52 := e153 (X := X) l[i] id
    by_cases hc : l[i].id = id
    · subst hc
      simp at h52
      simp [body152_1, hi, aAt, h52]
    · simp [hc] at h52
      simp [body152_1, hi, hw, aAt, hc, h52]) (by simp [body152_1]) (by simp)
  exact this
theorem e152 (l : List Account) (id : Int) (h : l.length ≤ 1000) : O X 152 [.l (encA l), .f (.func 153) [] [.r [.i .i64 id]]] = some (posV (posA l id)) := by
  refine orun (fc := code152) rfl rfl rfl ?_
  have hl := l152 (X := X) l id h
  cases hq : posA l id <;> rw [hq] at hl <;> simp [code152, exec_loopK, hl, posV]
theorem e104 (b : Books) (id : Int) (h : b.accounts.length ≤ 1000) : O X 104 [b.v, .i .i64 id] = some (posV (posA b.accounts id)) := by
  refine orun (fc := code104) rfl rfl rfl ?_
  have h1 := e152 (X := X) b.accounts id h
  cases hq : posA b.accounts id <;> rw [hq] at h1 <;> simp [posV] at h1 <;> simp [code104, h1, posV]
theorem e62 (b : Books) (id : Int) (h : b.accounts.length ≤ 1000) : O X 62 [b.v, .i .i64 id] = some (aV b.accounts (posA b.accounts id)) := by
  refine orun (fc := code62) rfl rfl rfl ?_
  have h1 := e104 (X := X) b id h
  cases hq : posA b.accounts id with
  | none => rw [hq] at h1; simp [posV] at h1; simp [code62, h1, aV, a0]
  | some i =>
    obtain ⟨hi, _⟩ := posA_some hq
    have h2 : ¬ (i : Int) < 0 := by omega
    rw [hq] at h1; simp [posV] at h1; simp [code62, h1, h2, hi, aV]
theorem l180 (b : Books) (id : Int) (h : b.accounts.length ≤ 1000) : loopK (O X) [1, 2, 4, 6] body180_1 [(1, .i .i64 id), (2, .bx b.cells), (4, .bx a0.cells), (6, .i .i64 0)] = some (optE (fun (i : Nat) => (.r, [(4, .bx ((b.accounts[i]?.getD a0).cells)), (5, .b true)])) (.e 0, [(4, .bx a0.cells)]) (posA b.accounts id)) := by
  have := loopK_code (o := O X) (kin := [1, 2, 4, 6]) (c := body180_1) (fun i => [(1, .i .i64 id), (2, .bx b.cells), (4, .bx a0.cells), (6, .i .i64 i)]) b.accounts.length (aAt b.accounts id) (fun (i : Nat) => (.r, [(4, .bx ((b.accounts[i]?.getD a0).cells)), (5, .b true)])) (.e 0, [(4, .bx a0.cells)]) (by simp) (by simp) (fun i hi => by
    have hw := wrap_i64 (i + 1) (by omega)
    by_cases hc : b.accounts[i].id = id <;> simp [body180_1, hi, hw, aAt, hc]) (by simp [body180_1]) (by simp)
  exact this
theorem e180 (b : Books) (id : Int) (h : b.accounts.length ≤ 1000) : O X 180 [b.v, .i .i64 id] = some (aV b.accounts (posA b.accounts id)) := by
  refine orun (fc := code180) rfl rfl rfl ?_
  have hl := l180 (X := X) b id h
  cases hq : posA b.accounts id with
  | none => rw [hq] at hl; simp [a0] at hl; simp [code180, exec_loopK, hl, aV, a0]
  | some i =>
    obtain ⟨hi, _⟩ := posA_some hq
    rw [hq] at hl; simp [a0, hi] at hl; simp [code180, exec_loopK, hl, aV, hi]
/-! ### Owners -/
def owner (b : Books) (id : Int) : Int := if (findG b.chart id).isSome = true then id else if (posA b.accounts id).isSome = true then b.plan.deposits else 0
structure Fine (b : Books) : Prop where
  chart : b.chart.length ≤ 1000
  accs : b.accounts.length ≤ 1000
  curs : b.currencies.length ≤ 1000
  jour : b.journal.length ≤ 1000
  legs : ∀ e ∈ b.journal, e.legs.length ≤ 1000
theorem e47 (b : Books) (id : Int) (h : Fine b) : O X 47 [b.v, .i .i64 id] = some (.i .i64 (owner b id)) := by
  refine orun (fc := code47) rfl rfl rfl ?_
  have h1 := e90 (X := X) b.chart id h.chart
  have h2 := e62 (X := X) b id h.accs
  unfold owner
  cases hg : findG b.chart id with
  | some g => rw [hg] at h1; simp [gV] at h1; simp [code47, h1]
  | none =>
    rw [hg] at h1; simp [gV, g0] at h1
    cases ha : posA b.accounts id with
    | none => rw [ha] at h2; simp [aV, a0] at h2; simp [code47, h1, h2]
    | some i =>
      obtain ⟨hi, _⟩ := posA_some ha
      rw [ha] at h2; simp [aV, hi] at h2; simp [code47, h1, h2]
/-! ### What belongs to a row -/
def uAt (c : List Gl) (ow : Int) (l : List Int) (i : Nat) : Option Nat := match l[i]? with
  | some r => if under c ow r = true then some i else none
  | none => none
def posU (c : List Gl) (ow : Int) (l : List Int) : Option Nat := (List.range l.length).findSome? (uAt c ow l)
def belongsB (b : Books) (r : Row) (id : Int) : Bool := decide (owner b id ≠ 0) && (posU b.chart (owner b id) r.roots).isSome
theorem e93 (b : Books) (ow root : Int) (h : b.chart.length ≤ 1000) : O X 93 [.i .i64 root, .r b.cells, .r [.i .i64 ow]] = some (.b (under b.chart ow root)) := by
  refine orun (fc := code93) rfl rfl rfl ?_
  have h1 := e91 (X := X) b.chart ow root h
  simp [code93, h1]
theorem l142 (b : Books) (ow : Int) (l : List Int) (hb : b.chart.length ≤ 1000) (h : l.length ≤ 1000) : loopK (O X) [0, 1, 7, 8] body142_1 [(0, .l (ints l)), (1, .f (.func 93) [] [.r b.cells, .r [.i .i64 ow]]), (7, .i .i64 l.length), (8, .i .i64 0)] = some (optE (fun (i : Nat) => (.r, [(4, .i .i64 i)])) (.e 0, []) (posU b.chart ow l)) := by
  have := loopK_code (o := O X) (kin := [0, 1, 7, 8]) (c := body142_1) (fun i => [(0, .l (ints l)), (1, .f (.func 93) [] [.r b.cells, .r [.i .i64 ow]]), (7, .i .i64 l.length), (8, .i .i64 i)]) l.length (uAt b.chart ow l) (fun (i : Nat) => (.r, [(4, .i .i64 i)])) (.e 0, []) (by simp) (by simp) (fun i hi => by
    have hw := wrap_i64 (i + 1) (by omega)
    have h54 := e93 (X := X) b ow l[i] hb
    cases hc : under b.chart ow l[i] <;> rw [hc] at h54 <;> simp [body142_1, hi, hw, uAt, hc, h54]) (by simp [body142_1]) (by simp)
  exact this
theorem e142 (b : Books) (ow : Int) (l : List Int) (hb : b.chart.length ≤ 1000) (h : l.length ≤ 1000) : O X 142 [.l (ints l), .f (.func 93) [] [.r b.cells, .r [.i .i64 ow]]] = some (posV (posU b.chart ow l)) := by
  refine orun (fc := code142) rfl rfl rfl ?_
  have hl := l142 (X := X) b ow l hb h
  cases hq : posU b.chart ow l <;> rw [hq] at hl <;> simp [code142, exec_loopK, hl, posV]
theorem e92 (b : Books) (ow : Int) (l : List Int) (hb : b.chart.length ≤ 1000) (h : l.length ≤ 1000) : O X 92 [.l (ints l), .f (.func 93) [] [.r b.cells, .r [.i .i64 ow]]] = some (.b (posU b.chart ow l).isSome) := by
  refine orun (fc := code92) rfl rfl rfl ?_
  have hl := e142 (X := X) b ow l hb h
  cases hq : posU b.chart ow l <;> rw [hq] at hl <;> simp [posV] at hl <;> simp [code92, hl]
theorem e50 (b : Books) (r : Row) (id : Int) (h : Fine b) (hr : r.roots.length ≤ 1000) : O X 50 [b.v, r.v, .i .i64 id] = some (.b (belongsB b r id)) := by
  refine orun (fc := code50) rfl rfl rfl ?_
  have h1 := e47 (X := X) b id h
  have h2 := e92 (X := X) b (owner b id) r.roots h.chart hr
  unfold belongsB
  generalize owner b id = ow at h1 h2
  by_cases hc : ow = 0
  · subst hc; simp [code50, h1]
  · simp [code50, h1, h2, hc]
end Go.Proofs.YtdlpbedneamebaaGreatDoor
namespace Go.Proofs.YtdlpbedneamebaaGreatDoor
open Go.VM
variable {X : Orc}
/-! ### Roots -/
def dupAt (c : List Gl) (l : List Int) (x : Int) (k : Nat) : Option Unit := match l[k]? with
  | some y => if under c x y = true ∨ under c y x = true then some () else none
  | none => none
def rootAt (c : List Gl) (l : List Int) (i : Nat) : Option Int := match l[i]? with
  | some x => if findG c x = none then some 11 else if ((List.range i).findSome? (dupAt c l x)).isSome = true then some 12 else none
  | none => none
def rootE (c : List Gl) (l : List Int) : Int := ((List.range l.length).findSome? (rootAt c l)).getD 0
theorem l49i (b : Books) (l : List Int) (i : Nat) (hi : i < l.length) (hb : b.chart.length ≤ 1000) (h : l.length ≤ 1000) : loopK (O X) [1, 2, 6, 11, 12, 13, 29, 30, 31] body49_1 [(1, .l (ints l)), (2, .bx b.cells), (6, .i .i64 l[i]), (11, .l (ints l)), (12, .i .i64 l.length), (13, .i .i64 i), (29, .l (ints (l.take i))), (30, .i .i64 i), (31, .i .i64 0)] =
    some (optE (fun (_ : Unit) => (.r, [(4, .i .i64 12)])) (.e 2, [(1, .l (ints l)), (2, .bx b.cells), (11, .l (ints l)), (12, .i .i64 l.length), (13, .i .i64 i)]) ((List.range i).findSome? (dupAt b.chart l l[i]))) := by
  have := loopK_code (o := O X) (kin := [1, 2, 6, 11, 12, 13, 29, 30, 31]) (c := body49_1) (fun k => [(1, .l (ints l)), (2, .bx b.cells), (6, .i .i64 l[i]), (11, .l (ints l)), (12, .i .i64 l.length), (13, .i .i64 i), (29, .l (ints (l.take i))), (30, .i .i64 i), (31, .i .i64 k)]) i (dupAt b.chart l l[i]) (fun (_ : Unit) => (.r, [(4, .i .i64 12)])) (.e 2, [(1, .l (ints l)), (2, .bx b.cells), (11, .l (ints l)), (12, .i .i64 l.length), (13, .i .i64 i)]) (by simp) (by simp) (fun k hk => by
    have hw := wrap_i64 (k + 1) (by omega)
    have hkl : k < l.length := by omega
    have hk2 : k < (l.take i).length := by rw [List.length_take]; omega
    have hte : (l.take i)[k] = l[k] := List.getElem_take
    have h1 := e91 (X := X) b.chart l[i] l[k] hb
    have h2 := e91 (X := X) b.chart l[k] l[i] hb
    have hkk : (k : Int) < (i : Int) := by omega
    generalize l.take i = m at hk2 hte ⊢
    cases c1 : under b.chart l[i] l[k] <;> rw [c1] at h1
    · cases c2 : under b.chart l[k] l[i] <;> rw [c2] at h2 <;> simp [body49_1, hk2, hte, hkk, hkl, hw, dupAt, h1, h2, c1, c2]
    · simp [body49_1, hk2, hte, hkk, hkl, dupAt, h1, c1]) (by simp [body49_1]) (by simp)
  exact this
theorem slc_ints (l : List Int) (i : Nat) (h : i ≤ l.length) : opQ (O X) (.slc 1 false true) [.l (ints l), .i .i64 i] = some (.l (ints (l.take i))) := by
  have hb : bnds (ints l).length false true [.i .i64 (i : Int)] = some (0, i) := by
    have : (i : Int) ≤ ((ints l).length : Int) := by simp; omega
    simp only [bnds]
    rw [if_pos ⟨by omega, this⟩]
    simp
  have ha : (ints l).all (fun x => x.cells.length == 1) = true := encL_all fun _ => rfl
  simp only [opQ, ha, if_true, hb, Option.map_some, List.drop_zero]
  simp [encL]
set_option maxHeartbeats 4000000 in
theorem l49 (b : Books) (l : List Int) (hb : b.chart.length ≤ 1000) (h : l.length ≤ 1000) : loopK (O X) [1, 2, 11, 12, 13] body49_2 [(1, .l (ints l)), (2, .bx b.cells), (11, .l (ints l)), (12, .i .i64 l.length), (13, .i .i64 0)] =
    some (optE (fun (e : Int) => (.r, [(4, .i .i64 e)])) (.e 0, []) ((List.range l.length).findSome? (rootAt b.chart l))) := by
  have := loopK_code (o := O X) (kin := [1, 2, 11, 12, 13]) (c := body49_2) (fun i => [(1, .l (ints l)), (2, .bx b.cells), (11, .l (ints l)), (12, .i .i64 l.length), (13, .i .i64 i)]) l.length (rootAt b.chart l) (fun (e : Int) => (.r, [(4, .i .i64 e)])) (.e 0, []) (by simp) (by simp) (fun i hi => by
    have hw := wrap_i64 (i + 1) (by omega)
    have hl := l49i (X := X) b l i hi hb h
    have h1 := e90 (X := X) b.chart l[i] hb
    have hs := slc_ints (X := X) l i (by omega)
    have hmin : min i l.length = i := by omega
    cases hg : findG b.chart l[i] with
    | none => rw [hg] at h1; simp [gV, g0] at h1; simp [body49_2, hi, rootAt, hg, h1]
    | some g =>
      rw [hg] at h1; simp [gV] at h1
      cases hq : (List.range i).findSome? (dupAt b.chart l l[i]) <;> rw [hq] at hl <;> simp at hl <;> simp [body49_2, exec_loopK, hi, hw, hs, hmin, rootAt, hg, h1, hq, hl]) (by simp [body49_2]) (by simp)
  exact this
theorem e49 (b : Books) (l : List Int) (hb : b.chart.length ≤ 1000) (h : l.length ≤ 1000) : O X 49 [b.v, .l (ints l)] = some (.i .i64 (rootE b.chart l)) := by
  refine orun (fc := code49) rfl rfl rfl ?_
  have hl := l49 (X := X) b l hb h
  unfold rootE
  cases hq : (List.range l.length).findSome? (rootAt b.chart l) <;> rw [hq] at hl <;> simp at hl <;> simp [code49, exec_loopK, hl]
/-! ### Check -/
def rowAt (b : Books) (l : List Row) (i : Nat) : Option Int := match l[i]? with
  | some r => if nameOk r.name = false then some 4 else if r.sign ≠ 1 ∧ r.sign ≠ -1 then some 1 else if rootE b.chart r.roots ≠ 0 then some (rootE b.chart r.roots) else none
  | none => none
def chk (b : Books) (l : List Row) : Int := if l.length < 1 ∨ 64 < l.length then 5 else ((List.range l.length).findSome? (rowAt b l)).getD 0
structure Rows (l : List Row) : Prop where
  roots : ∀ r ∈ l, r.roots.length ≤ 1000
  name : ∀ r ∈ l, r.name.length ≤ maxLen
set_option maxHeartbeats 4000000 in
theorem l18 (b : Books) (l : List Row) (hb : b.chart.length ≤ 1000) (hl : Rows l) (h : l.length ≤ 64) : loopK (O X) [2, 16, 17, 18] body18_1 [(2, .bx b.cells), (16, .l (encR l)), (17, .i .i64 l.length), (18, .i .i64 0)] =
    some (optE (fun (e : Int) => (.r, [(4, .i .i64 e)])) (.e 0, []) ((List.range l.length).findSome? (rowAt b l))) := by
  have := loopK_code (o := O X) (kin := [2, 16, 17, 18]) (c := body18_1) (fun i => [(2, .bx b.cells), (16, .l (encR l)), (17, .i .i64 l.length), (18, .i .i64 i)]) l.length (rowAt b l) (fun (e : Int) => (.r, [(4, .i .i64 e)])) (.e 0, []) (by simp) (by simp) (fun i hi => by
    have hw := wrap_i64 (i + 1) (by omega)
    have hm : l[i] ∈ l := List.getElem_mem hi
    have h1 := e48 (X := X) l[i].name (hl.name _ hm)
    have h2 := e49 (X := X) b l[i].roots hb (hl.roots _ hm)
    cases hn : nameOk l[i].name with
    | false => rw [hn] at h1; simp [body18_1, hi, rowAt, h1, hn]
    | true =>
      rw [hn] at h1
      by_cases hs : l[i].sign = 1
      · by_cases h0 : rootE b.chart l[i].roots = 0
        · rw [h0] at h2; simp [body18_1, hi, hw, rowAt, h1, hn, hs, h2, h0]
        · simp [body18_1, hi, rowAt, h1, hn, hs, h2, h0]
      · by_cases hs' : l[i].sign = -1
        · by_cases h0 : rootE b.chart l[i].roots = 0
          · rw [h0] at h2; simp [body18_1, hi, hw, rowAt, h1, hn, hs', h2, h0]
          · simp [body18_1, hi, rowAt, h1, hn, hs', h2, h0]
        · simp [body18_1, hi, rowAt, h1, hn, hs, hs']) (by simp [body18_1]) (by simp)
  exact this
theorem e18 (b : Books) (l : List Row) (hb : b.chart.length ≤ 1000) (hl : Rows l) (_h : l.length ≤ maxLen) : O X 18 [b.v, .l (encR l)] = some (.i .i64 (chk b l)) := by
  refine orun (fc := code18) rfl rfl rfl ?_
  unfold chk
  by_cases h1 : l.length < 1
  · have h1' : (l.length : Int) < 1 := by omega
    simp [code18, h1, h1']
  · have h1' : ¬ (l.length : Int) < 1 := by omega
    by_cases h2 : 64 < l.length
    · have h2' : (64 : Int) < (l.length : Int) := by omega
      simp [code18, h1', h2, h2']
    · have h2' : ¬ (64 : Int) < (l.length : Int) := by omega
      have hk := l18 (X := X) b l hb hl (by omega)
      rw [if_neg (by omega)]
      cases hq : (List.range l.length).findSome? (rowAt b l) <;> rw [hq] at hk <;> simp at hk <;> simp [code18, exec_loopK, h1', h2', hk]
end Go.Proofs.YtdlpbedneamebaaGreatDoor
