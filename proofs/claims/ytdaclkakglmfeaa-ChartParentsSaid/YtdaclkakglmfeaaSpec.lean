/-
  What the functions that the laws reach compute: names, what is found, paths in the chart.
-/
import Derived.Test.YtdaclkakglmfeaaTypes
namespace Go.Proofs.Ytdaclkakglmfeaa
open Go.VM
noncomputable def O (X : Orc) : Orc := den tab X
variable {X : Orc}
theorem orun {f : Nat} {fc : FCode} (ht : tab f = some fc) {args : List V} {y : V} (hl : args.length = fc.np) (ha : args.all V.arg = true) (h : retE fc.res (exec (O X) fc.body (args0 0 args)) = some y) : O X f args = some y := VM.run ht hl ha h
theorem loopK_go {o : Orc} {kin : List Nat} {c : C} {env env' : Env} (hF : keepE kin env = env) (hF' : keepE kin env' = env') (h : kE kin (exec o c env) = some (.n, env')) : loopK o kin c env = loopK o kin c env' := by
  rcases kE_inv h with ⟨_, g, hg, hk⟩ | ⟨hn, _⟩
  · rw [loopK, loopC_eq, hF, hg, roundE_n, loopK, loopC_eq, loopC_eq, hk, hF']
  · exact absurd rfl hn
theorem loopK_end {o : Orc} {kin : List Nat} {c : C} {env : Env} {r : Ex × Env} (hF : keepE kin env = env) (h : exec o c env = some r) (hr : r.1 ≠ .n) : loopK o kin c env = some r := by
  rw [loopK, loopC_eq, hF, h]
  obtain ⟨e, g⟩ := r
  cases e with
  | n => exact absurd rfl hr
  | e id => rfl
  | r => rfl
/-! ### Names -/
def letter (c : Int) : Bool := decide (97 ≤ c) && decide (c ≤ 122)
def badN (s : List UInt8) (i : Nat) : Option Unit := match s[i]? with
  | some c => if letter (c.toNat : Int) = false ∧ (i = 0 ∨ ((c.toNat : Int) ≠ 95 ∧ ((c.toNat : Int) < 48 ∨ 57 < (c.toNat : Int)))) then some () else none
  | none => none
def noBad (s : List UInt8) : Bool := ((List.range s.length).findSome? (badN s)).isNone
def nameOk (s : List UInt8) : Bool := noBad s && (decide (1 ≤ s.length) && decide (s.length ≤ 16))
theorem l38 (s : List UInt8) (h : s.length ≤ maxLen) : loopK (O X) [0, 7, 8] body38_1 [(0, .s s), (7, .i .i64 s.length), (8, .i .i64 0)] = some (optE (fun _ => (.r, [(2, .b false)])) (.e 0, [(0, .s s)]) ((List.range s.length).findSome? (badN s))) := by
  have := loopK_code (o := O X) (kin := [0, 7, 8]) (c := body38_1) (fun i => [(0, .s s), (7, .i .i64 s.length), (8, .i .i64 i)]) s.length (badN s) (fun _ => (.r, [(2, .b false)])) (.e 0, [(0, .s s)]) (by simp) (by simp) (fun i hi => by
    have hw := wrap_i64 (i + 1) (by simp only [maxLen] at h; omega)
    have hi0 : ((i : Int) = 0) ↔ i = 0 := by omega
    generalize hx : s[i] = x
    by_cases h1 : (97 : Int) ≤ (x.toNat : Int)
    · by_cases h2 : (x.toNat : Int) ≤ 122
      · simp [body38_1, hi, hw, badN, letter, hx, h1, h2]
      · by_cases h0 : i = 0
        · subst h0; simp [body38_1, hi, badN, letter, hx, h1, h2]
        · have h3 : ¬ (x.toNat : Int) = 95 := by omega
          have h4 : ¬ (x.toNat : Int) < 48 := by omega
          have h5 : (57 : Int) < (x.toNat : Int) := by omega
          simp [body38_1, hi, badN, letter, hx, h1, h2, h0, h3, h4, h5]
    · by_cases h0 : i = 0
      · subst h0; simp [body38_1, hi, badN, letter, hx, h1]
      · by_cases h3 : (x.toNat : Int) = 95
        · simp [body38_1, hi, hw, badN, letter, hx, h0, h3]
        · by_cases h4 : (x.toNat : Int) < 48
          · simp [body38_1, hi, badN, letter, hx, h1, h0, h3, h4]
          · by_cases h5 : (57 : Int) < (x.toNat : Int) <;> simp [body38_1, hi, hw, badN, letter, hx, h1, h0, h3, h4, h5]) (by simp [body38_1]) (by simp)
  exact this
theorem e38 (s : List UInt8) (h : s.length ≤ maxLen) : O X 38 [.s s] = some (.b (nameOk s)) := by
  refine orun (fc := code38) rfl rfl rfl ?_
  have hl := l38 (X := X) s h
  have h1 : (1 : Int) ≤ (s.length : Int) ↔ 1 ≤ s.length := by omega
  have h2 : (s.length : Int) ≤ 16 ↔ s.length ≤ 16 := by omega
  cases hq : (List.range s.length).findSome? (badN s) <;> rw [hq] at hl <;> simp [code38, exec_loopK, hl, nameOk, noBad, hq, h1, h2]
def badM (s : List UInt8) (i : Nat) : Option Unit := match s[i]? with
  | some c => if letter (c.toNat : Int) = false ∧ ((c.toNat : Int) ≠ 95 ∧ ((c.toNat : Int) < 48 ∨ 57 < (c.toNat : Int))) then some () else none
  | none => none
theorem noBad_iff {s : List UInt8} (h0 : 0 < s.length) : noBad s = (letter (s[0].toNat : Int) && ((List.range s.length).findSome? (badM s)).isNone) := by
  rw [Bool.eq_iff_iff]
  unfold noBad
  rw [Option.isNone_iff_eq_none, Bool.and_eq_true, Option.isNone_iff_eq_none, range_find_none, range_find_none]
  constructor
  · intro h
    refine ⟨?_, fun i hi => ?_⟩
    · have := h 0 h0
      simp only [badN, List.getElem?_eq_getElem h0, true_or, and_true] at this
      cases hq : letter (s[0].toNat : Int) with
      | true => rfl
      | false => rw [hq] at this; simp at this
    · have := h i hi
      simp only [badN, badM, List.getElem?_eq_getElem hi] at this ⊢
      split at this
      · cases this
      · rename_i hn
        rw [if_neg fun hc => hn ⟨hc.1, .inr hc.2⟩]
  · rintro ⟨h1, h2⟩ i hi
    have := h2 i hi
    simp only [badN, badM, List.getElem?_eq_getElem hi] at this ⊢
    split at this
    · cases this
    · rename_i hn
      rw [if_neg]
      rintro ⟨hc1, hc2 | hc2⟩
      · subst hc2; rw [h1] at hc1; cases hc1
      · exact hn ⟨hc1, hc2⟩
theorem l28 (s : List UInt8) (h : s.length ≤ 16) (h1 : 1 ≤ s.length) : loopK (O X) [0, 3] body28_1 [(0, .s s), (3, .i .i64 1)] = some (optE (fun _ => (.r, [(2, .b false)])) (.e 0, []) ((List.range (s.length - 1)).findSome? fun k => badM s (k + 1))) := by
  have := loopK_code (o := O X) (kin := [0, 3]) (c := body28_1) (fun k => [(0, .s s), (3, .i .i64 ((k + 1 : Nat) : Int))]) (s.length - 1) (fun k => badM s (k + 1)) (fun _ => (.r, [(2, .b false)])) (.e 0, []) (by simp) (by simp) (fun k hk => by
    have hi : k + 1 < s.length := by omega
    have hw : IntKind.i64.wrap ((k : Int) + 1 + 1) = (k : Int) + 1 + 1 := wrap_i64 _ (by omega)
    have hlt : (k : Int) + 1 < (s.length : Int) := by omega
    generalize hx : s[k + 1] = x
    by_cases h1 : (x.toNat : Int) < 97
    · have h1' : ¬ (97 : Int) ≤ (x.toNat : Int) := by omega
      by_cases h4 : (x.toNat : Int) < 48
      · have h3 : ¬ (x.toNat : Int) = 95 := by omega
        simp [body28_1, hi, hlt, badM, letter, hx, h1, h1', h3, h4]
      · by_cases h5 : (57 : Int) < (x.toNat : Int)
        · by_cases h3 : (x.toNat : Int) = 95 <;> simp [body28_1, hi, hlt, hw, badM, letter, hx, h1, h1', h3, h4, h5]
        · have h3 : ¬ (x.toNat : Int) = 95 := by omega
          simp [body28_1, hi, hlt, hw, badM, letter, hx, h1, h1', h3, h4, h5]
    · have h1' : (97 : Int) ≤ (x.toNat : Int) := by omega
      by_cases h2 : (x.toNat : Int) ≤ 122
      · have h2' : ¬ (122 : Int) < (x.toNat : Int) := by omega
        simp [body28_1, hi, hlt, hw, badM, letter, hx, h1, h1', h2, h2']
      · have h2' : (122 : Int) < (x.toNat : Int) := by omega
        have h3 : ¬ (x.toNat : Int) = 95 := by omega
        have h4 : ¬ (x.toNat : Int) < 48 := by omega
        have h5 : (57 : Int) < (x.toNat : Int) := by omega
        simp [body28_1, hi, hlt, badM, letter, hx, h1, h1', h2, h2', h3, h4, h5]) (by
      have : ((s.length - 1 + 1 : Nat) : Int) = (s.length : Int) := by omega
      rw [this]; simp [body28_1]) (by simp)
  exact this
theorem noBad_iff1 {s : List UInt8} (h0 : 0 < s.length) : noBad s = (letter (s[0].toNat : Int) && ((List.range (s.length - 1)).findSome? fun k => badM s (k + 1)).isNone) := by
  rw [noBad_iff h0]
  cases hq : letter (s[0].toNat : Int) with
  | false => simp
  | true =>
    simp only [Bool.true_and]
    rw [Bool.eq_iff_iff, Option.isNone_iff_eq_none, Option.isNone_iff_eq_none, range_find_none, range_find_none]
    constructor
    · intro h k hk; exact h (k + 1) (by omega)
    · intro h i hi
      cases i with
      | zero => simp [badM, h0, hq]
      | succ i => exact h i (by omega)
theorem e28 (s : List UInt8) : O X 28 [.s s] = some (.b (nameOk s)) := by
  refine orun (fc := code28) rfl rfl rfl ?_
  unfold nameOk
  by_cases h0 : s.length < 1
  · have h0' : s = [] := List.eq_nil_of_length_eq_zero (by omega)
    subst h0'
    simp [code28]
  · have hne : ¬ s = [] := fun e => by subst e; simp at h0
    have h1 : 1 ≤ s.length := by omega
    have hp : 0 < s.length := by omega
    by_cases h2 : 16 < s.length
    · have h2' : (16 : Int) < (s.length : Int) := by omega
      have h3 : ¬ s.length ≤ 16 := by omega
      simp [code28, hne, h2', h3]
    · have h2' : ¬ (16 : Int) < (s.length : Int) := by omega
      have h3 : s.length ≤ 16 := by omega
      rw [noBad_iff1 hp]
      have hl := l28 (X := X) s h3 h1
      generalize hx : s[0] = x
      have hp' : (0 : Int) < (s.length : Int) := by omega
      by_cases k1 : (x.toNat : Int) < 97
      · have k1' : ¬ (97 : Int) ≤ (x.toNat : Int) := by omega
        simp [code28, hne, h2', hp, hx, k1, letter, k1']
      · have k1' : (97 : Int) ≤ (x.toNat : Int) := by omega
        by_cases k2 : (122 : Int) < (x.toNat : Int)
        · have k2' : ¬ (x.toNat : Int) ≤ 122 := by omega
          simp [code28, hne, h2', hp, hx, k1, k2, letter, k2']
        · have k2' : (x.toNat : Int) ≤ 122 := by omega
          cases hq : (List.range (s.length - 1)).findSome? (fun k => badM s (k + 1)) <;> rw [hq] at hl <;> simp [code28, hne, h2', hp, hx, k1, k2, letter, k1', k2', exec_loopK, hl, h1, h3]
/-! ### What is found -/
abbrev encG (l : List Gl) : List V := encL Gl.v l
def gAt (l : List Gl) (id : Int) (i : Nat) : Option Gl := match l[i]? with
  | some g => if g.id = id then some g else none
  | none => none
def findG (l : List Gl) (id : Int) : Option Gl := (List.range l.length).findSome? (gAt l id)
def g0 : Gl := ⟨0, 0, 0, []⟩
def gV : Option Gl → V
  | some g => .t [g.v, .b true]
  | none => .t [g0.v, .b false]
theorem l12 (l : List Gl) (id : Int) (h : l.length ≤ 1000) : loopK (O X) [1, 4, 8, 9, 10] body12_1 [(1, .i .i64 id), (4, .bx g0.cells), (8, .l (encG l)), (9, .i .i64 l.length), (10, .i .i64 0)] = some (optE (fun g => (.r, [(4, .bx g.cells), (5, .b true)])) (.e 0, [(4, .bx g0.cells)]) (findG l id)) := by
  have := loopK_code (o := O X) (kin := [1, 4, 8, 9, 10]) (c := body12_1) (fun i => [(1, .i .i64 id), (4, .bx g0.cells), (8, .l (encG l)), (9, .i .i64 l.length), (10, .i .i64 i)]) l.length (gAt l id) (fun g => (.r, [(4, .bx g.cells), (5, .b true)])) (.e 0, [(4, .bx g0.cells)]) (by simp) (by simp) (fun i hi => by
    have hw := wrap_i64 (i + 1) (by omega)
    by_cases hc : l[i].id = id <;> simp [body12_1, hi, hw, gAt, hc]) (by simp [body12_1]) (by simp)
  exact this
@[simp] theorem e12 (l : List Gl) (id : Int) (h : l.length ≤ 1000) : O X 12 [.l (encG l), .i .i64 id] = some (gV (findG l id)) := by
  refine orun (fc := code12) rfl rfl rfl ?_
  have hl := l12 (X := X) l id h
  cases hq : findG l id <;> rw [hq] at hl <;> simp [g0] at hl <;> simp [code12, exec_loopK, hl, gV, g0]
theorem l13 {o : Orc} (l : List Gl) (id : Int) (h : l.length ≤ 1000) : loopK o [0, 1, 4, 6] body13_1 [(0, .l (encG l)), (1, .i .i64 id), (4, .bx g0.cells), (6, .i .i64 0)] = some (optE (fun g => (.r, [(4, .bx g.cells), (5, .b true)])) (.e 0, [(4, .bx g0.cells)]) (findG l id)) := by
  have := loopK_code (o := o) (kin := [0, 1, 4, 6]) (c := body13_1) (fun i => [(0, .l (encG l)), (1, .i .i64 id), (4, .bx g0.cells), (6, .i .i64 i)]) l.length (gAt l id) (fun g => (.r, [(4, .bx g.cells), (5, .b true)])) (.e 0, [(4, .bx g0.cells)]) (by simp) (by simp) (fun i hi => by
    have hw := wrap_i64 (i + 1) (by omega)
    by_cases hc : l[i].id = id <;> simp [body13_1, hi, hw, gAt, hc]) (by simp [body13_1]) (by simp)
  exact this
theorem e13g {tb : Nat → Option FCode} {X : Orc} (ht : tb 13 = some code13) (l : List Gl) (id : Int) (h : l.length ≤ 1000) : den tb X 13 [.l (encG l), .i .i64 id] = some (gV (findG l id)) := by
  refine VM.run ht rfl rfl ?_
  have hl := l13 (o := den tb X) l id h
  cases hq : findG l id <;> rw [hq] at hl <;> simp [g0] at hl <;> simp [code13, exec_loopK, hl, gV, g0]
@[simp] theorem e13 (l : List Gl) (id : Int) (h : l.length ≤ 1000) : O X 13 [.l (encG l), .i .i64 id] = some (gV (findG l id)) := e13g rfl l id h
/-! ### Paths -/
def pathN (l : List Gl) : Nat → Option Gl → List Int
  | 0, _ => []
  | _ + 1, none => []
  | n + 1, some g => g.id :: (if g.parent = 0 then [] else pathN l n (findG l g.parent))
theorem pathN_len (l : List Gl) : ∀ (n : Nat) (og : Option Gl), (pathN l n og).length ≤ n
  | 0, _ => by simp [pathN]
  | n + 1, none => by simp [pathN]
  | n + 1, some g => by
    unfold pathN
    have := pathN_len l n (findG l g.parent)
    split <;> simp <;> omega
def path (l : List Gl) (id : Int) : List Int := (pathN l 40 (findG l id)).reverse
def cellsOf : Option Gl → List V
  | some g => g.cells
  | none => g0.cells
theorem ints_snoc (l : List Int) (k : Int) : ints l ++ [.i .i64 k] = ints (l ++ [k]) := by simp [encL]
theorem ints_cons (l : List Int) (k : Int) : V.i .i64 k :: ints l = ints (k :: l) := by simp [encL]
theorem ints_all (l : List Int) : (ints l).all (fun x => x.cells.length == 1 && x.cells.all V.cell) = true := by
  rw [List.all_eq_true]; intro x hx; obtain ⟨y, _, rfl⟩ := List.mem_map.1 hx; rfl
abbrev E15 (l : List Gl) (acc : List Int) (og : Option Gl) : Env := [(0, .l (encG l)), (5, .ow 3 (ints acc)), (6, .bx (cellsOf og)), (7, .b og.isSome)]
theorem l15 (l : List Gl) (h : l.length ≤ 1000) : ∀ (n : Nat) (acc : List Int) (og : Option Gl), acc.length + n = 40 → loopK (O X) [0, 5, 6, 7] body15_1 (E15 l acc og) = some (.e 0, [(5, .ow 3 (ints (acc ++ pathN l n og)))])
  | 0, acc, og, hn => by
    have h1 : ¬ (acc.length : Int) < 40 := by omega
    refine loopK_end (by simp) ?_ (by simp)
    cases og <;> simp [body15_1, pathN, h1]
  | n + 1, acc, none, hn => by
    refine loopK_end (by simp) ?_ (by simp)
    simp [body15_1, pathN]
  | n + 1, acc, some g, hn => by
    have h1 : (acc.length : Int) < 40 := by omega
    have h2 : (acc.length + 1) * 8 ≤ 140737488355328 := by omega
    have hs := ints_snoc acc g.id
    by_cases hp : g.parent = 0
    · refine loopK_end (by simp) ?_ (by simp)
      simp [body15_1, pathN, h1, h2, hp, hs, cellsOf]
    · have ih := l15 l h n (acc ++ [g.id]) (findG l g.parent) (by simp; omega)
      rw [pathN, if_neg hp, List.append_cons, ← ih]
      refine loopK_go (by simp) (by simp) ?_
      have hf := e12 (X := X) l g.parent h
      cases hq : findG l g.parent <;> rw [hq] at hf <;> simp [gV, g0] at hf <;> simp [body15_1, h1, h2, hp, hs, cellsOf, hf, g0]
@[simp] theorem e15 (l : List Gl) (id : Int) (h : l.length ≤ 1000) : O X 15 [.l (encG l), .i .i64 id] = some (.ow 3 (ints (path l id))) := by
  refine orun (fc := code15) rfl rfl rfl ?_
  have hl := l15 (X := X) l h 40 [] (findG l id) rfl
  have hf := e12 (X := X) l id h
  have hlen := pathN_len l 40 (findG l id)
  have h30 : mutOf 30 = ⟨3, false, false, revRun, 0⟩ := rfl
  have hpath : path l id = (pathN l 40 (findG l id)).reverse := rfl
  rw [List.nil_append] at hl
  generalize pathN l 40 (findG l id) = p at hl hlen hpath
  rw [hpath]
  have hr : (ints p).reverse = ints p.reverse := by simp [encL]
  have hlen' : p.length ≤ 1000000 := by omega
  cases hq : findG l id <;> rw [hq] at hf hl <;> simp [E15, gV, g0, cellsOf] at hf hl <;> simp [code15, exec_loopK, hl, hf, h30, revRun, hlen']
theorem l16 (l : List Gl) (h : l.length ≤ 1000) : ∀ (n : Nat) (acc : List Int) (og : Option Gl), acc.length + n = 40 → loopK (O X) [0, 5, 6, 7] body16_1 (E15 l acc og) = some (.e 0, [(5, .ow 3 (ints ((pathN l n og).reverse ++ acc)))]) ∨ loopK (O X) [0, 5, 6, 7] body16_1 (E15 l acc og) = some (.r, [(4, .ow 3 (ints ((pathN l n og).reverse ++ acc)))])
  | 0, acc, og, hn => by
    have h1 : ¬ (acc.length : Int) < 40 := by omega
    left
    refine loopK_end (by simp) ?_ (by simp)
    cases og <;> simp [body16_1, pathN, h1]
  | n + 1, acc, none, hn => by
    left
    refine loopK_end (by simp) ?_ (by simp)
    simp [body16_1, pathN]
  | n + 1, acc, some g, hn => by
    have h1 : (acc.length : Int) < 40 := by omega
    have h2 : (1 + acc.length) * 8 ≤ 140737488355328 := by omega
    have hs := ints_cons acc g.id
    by_cases hp : g.parent = 0
    · right
      refine loopK_end (by simp) ?_ (by simp)
      simp [body16_1, pathN, h1, h2, hp, hs, cellsOf]
    · have ih := l16 l h n (g.id :: acc) (findG l g.parent) (by simp; omega)
      have hgo : loopK (O X) [0, 5, 6, 7] body16_1 (E15 l acc (some g)) = loopK (O X) [0, 5, 6, 7] body16_1 (E15 l (g.id :: acc) (findG l g.parent)) := by
        refine loopK_go (by simp) (by simp) ?_
        have hf := e13 (X := X) l g.parent h
        cases hq : findG l g.parent <;> rw [hq] at hf <;> simp [gV, g0] at hf <;> simp [body16_1, h1, h2, hp, hs, cellsOf, hf, g0]
      rw [pathN, if_neg hp, List.reverse_cons, List.append_assoc, hgo]
      exact ih
@[simp] theorem e16 (l : List Gl) (id : Int) (h : l.length ≤ 1000) : O X 16 [.l (encG l), .i .i64 id] = some (.ow 3 (ints (path l id))) := by
  refine orun (fc := code16) rfl rfl rfl ?_
  have hl := l16 (X := X) l h 40 [] (findG l id) rfl
  have hf := e13 (X := X) l id h
  have hpath : path l id = (pathN l 40 (findG l id)).reverse := rfl
  rw [List.append_nil] at hl
  rw [← hpath] at hl
  generalize path l id = p at hl
  rcases hl with hl | hl <;> cases hq : findG l id <;> rw [hq] at hf hl <;> simp [E15, gV, g0, cellsOf] at hf hl <;> simp [code16, exec_loopK, hl, hf]
def iAt (l : List Int) (x : Int) (i : Nat) : Option Nat := match l[i]? with
  | some y => if x = y then some i else none
  | none => none
/-- Where a number stands first. -/
def posI (l : List Int) (x : Int) : Option Nat := (List.range l.length).findSome? (iAt l x)
def posV : Option Nat → V
  | some i => .i .i64 i
  | none => .i .i64 (-1)
theorem l41 (l : List Int) (x : Int) (h : l.length ≤ 1000) : loopK (O X) [0, 1, 7, 8] body41_1 [(0, .l (ints l)), (1, .i .i64 x), (7, .i .i64 l.length), (8, .i .i64 0)] = some (optE (fun (i : Nat) => (.r, [(4, .i .i64 i)])) (.e 0, []) (posI l x)) := by
  have := loopK_code (o := O X) (kin := [0, 1, 7, 8]) (c := body41_1) (fun i => [(0, .l (ints l)), (1, .i .i64 x), (7, .i .i64 l.length), (8, .i .i64 i)]) l.length (iAt l x) (fun (i : Nat) => (.r, [(4, .i .i64 i)])) (.e 0, []) (by simp) (by simp) (fun i hi => by
    have hw := wrap_i64 (i + 1) (by omega)
    by_cases hc : x = l[i] <;> simp [body41_1, hi, hw, iAt, hc]) (by simp [body41_1]) (by simp)
  exact this
@[simp] theorem e41 (l : List Int) (x : Int) (h : l.length ≤ 1000) : O X 41 [.l (ints l), .i .i64 x] = some (posV (posI l x)) := by
  refine orun (fc := code41) rfl rfl rfl ?_
  have hl := l41 (X := X) l x h
  cases hq : posI l x <;> rw [hq] at hl <;> simp [code41, exec_loopK, hl, posV]
@[simp] theorem e31 (l : List Int) (x : Int) (h : l.length ≤ 1000) : O X 31 [.l (ints l), .i .i64 x] = some (.b (posI l x).isSome) := by
  refine orun (fc := code31) rfl rfl rfl ?_
  have hl := e41 (X := X) l x h
  cases hq : posI l x <;> rw [hq] at hl <;> simp [posV] at hl <;> simp [code31, hl]
theorem path_len (l : List Gl) (id : Int) : (path l id).length ≤ 40 := by unfold path; rw [List.length_reverse]; exact pathN_len _ _ _
/-- Is an account below another, or that one? -/
def under (l : List Gl) (id root : Int) : Bool := (posI (path l id) root).isSome
@[simp] theorem e17 (l : List Gl) (id root : Int) (h : l.length ≤ 1000) : O X 17 [.l (encG l), .i .i64 id, .i .i64 root] = some (.b (under l id root)) := by
  refine orun (fc := code17) rfl rfl rfl ?_
  have h1 := e15 (X := X) l id h
  have h2 := e31 (X := X) (path l id) root (by have := path_len l id; omega)
  unfold under
  generalize path l id = p at h1 h2
  simp [code17, h1, h2]
theorem l18 (p : List Int) (root : Int) (h : p.length ≤ 1000) : loopK (O X) [2, 7, 8] body18_1 [(2, .i .i64 root), (7, .ow 3 (ints p)), (8, .i .i64 0)] = some (optE (fun (_ : Nat) => (.r, [(6, .b true)])) (.e 0, []) (posI p root)) := by
  have := loopK_code (o := O X) (kin := [2, 7, 8]) (c := body18_1) (fun i => [(2, .i .i64 root), (7, .ow 3 (ints p)), (8, .i .i64 i)]) p.length (iAt p root) (fun (_ : Nat) => (.r, [(6, .b true)])) (.e 0, []) (by simp) (by simp) (fun i hi => by
    have hw := wrap_i64 (i + 1) (by omega)
    by_cases hc : root = p[i]
    · simp [body18_1, hi, iAt, ← hc]
    · have hc' : ¬ p[i] = root := fun e => hc e.symm
      simp [body18_1, hi, hw, iAt, hc, hc']) (by simp [body18_1]) (by simp)
  exact this
@[simp] theorem e18 (l : List Gl) (id root : Int) (h : l.length ≤ 1000) : O X 18 [.l (encG l), .i .i64 id, .i .i64 root] = some (.b (under l id root)) := by
  refine orun (fc := code18) rfl rfl rfl ?_
  have h1 := e16 (X := X) l id h
  have h2 := l18 (X := X) (path l id) root (by have := path_len l id; omega)
  unfold under
  generalize path l id = p at h1 h2
  cases hq : posI p root <;> rw [hq] at h2 <;> simp [code18, exec_loopK, h1, h2]
end Go.Proofs.Ytdaclkakglmfeaa
