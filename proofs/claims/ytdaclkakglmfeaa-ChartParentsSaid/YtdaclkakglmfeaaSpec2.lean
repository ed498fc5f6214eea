/-
  What the functions that the laws reach compute: parents, elements, the fields of a plan, Check.
-/
import Derived.Test.YtdaclkakglmfeaaSpec
namespace Go.Proofs.Ytdaclkakglmfeaa
open Go.VM
variable {X : Orc}
theorem slc_G (l : List Gl) (i : Nat) (h : i ≤ l.length) : opQ (O X) (.slc 4 false true) [.l (encG l), .i .i64 i] = some (.l (encG (l.take i))) := by
  have hb : bnds (encG l).length false true [.i .i64 (i : Int)] = some (0, i) := by
    have : (i : Int) ≤ ((encG l).length : Int) := by simp; omega
    simp only [bnds]
    rw [if_pos ⟨by omega, this⟩]
    simp
  have ha : (encG l).all (fun x => x.cells.length == 4) = true := encL_all fun _ => rfl
  simp only [opQ, ha, if_true, hb, Option.map_some, List.drop_zero]
  simp [encL]
/-! ### Parents -/
def pAt (l : List Gl) (id : Int) (i : Nat) : Option Nat := match l[i]? with
  | some g => if g.parent = id then some i else none
  | none => none
def posP (l : List Gl) (id : Int) : Option Nat := (List.range l.length).findSome? (pAt l id)
def parentB (l : List Gl) (id : Int) : Bool := (posP l id).isSome
theorem e40 (g : Gl) (id : Int) : O X 40 [g.v, .r [.i .i64 id]] = some (.b (decide (g.parent = id))) := by
  refine orun (fc := code40) rfl rfl rfl ?_; simp [code40]
theorem l45 (l : List Gl) (id : Int) (h : l.length ≤ 1000) : loopK (O X) [0, 1, 7, 8] body45_1 [(0, .l (encG l)), (1, .f (.func 40) [] [.r [.i .i64 id]]), (7, .i .i64 l.length), (8, .i .i64 0)] = some (optE (fun (i : Nat) => (.r, [(4, .i .i64 i)])) (.e 0, []) (posP l id)) := by
  have := loopK_code (o := O X) (kin := [0, 1, 7, 8]) (c := body45_1) (fun i => [(0, .l (encG l)), (1, .f (.func 40) [] [.r [.i .i64 id]]), (7, .i .i64 l.length), (8, .i .i64 i)]) l.length (pAt l id) (fun (i : Nat) => (.r, [(4, .i .i64 i)])) (.e 0, []) (by simp) (by simp) (fun i hi => by
    have hw := wrap_i64 (i + 1) (by omega)
    have h40 := e40 (X := X) l[i] id
    by_cases hc : l[i].parent = id
    · subst hc
      simp at h40
      simp [body45_1, hi, pAt, h40]
    · simp [hc] at h40
      simp [body45_1, hi, hw, pAt, hc, h40]) (by simp [body45_1]) (by simp)
  exact this
theorem e45 (l : List Gl) (id : Int) (h : l.length ≤ 1000) : O X 45 [.l (encG l), .f (.func 40) [] [.r [.i .i64 id]]] = some (posV (posP l id)) := by
  refine orun (fc := code45) rfl rfl rfl ?_
  have hl := l45 (X := X) l id h
  cases hq : posP l id <;> rw [hq] at hl <;> simp [code45, exec_loopK, hl, posV]
theorem e39 (l : List Gl) (id : Int) (h : l.length ≤ 1000) : O X 39 [.l (encG l), .f (.func 40) [] [.r [.i .i64 id]]] = some (.b (parentB l id)) := by
  refine orun (fc := code39) rfl rfl rfl ?_
  have hl := e45 (X := X) l id h
  unfold parentB
  cases hq : posP l id <;> rw [hq] at hl <;> simp [posV] at hl <;> simp [code39, hl]
@[simp] theorem e27 (l : List Gl) (id : Int) (h : l.length ≤ 1000) : O X 27 [.l (encG l), .i .i64 id] = some (.b (parentB l id)) := by
  refine orun (fc := code27) rfl rfl rfl ?_
  have hl := e39 (X := X) l id h
  simp [code27, hl]
theorem l34 (l : List Gl) (id : Int) (h : l.length ≤ 1000) : loopK (O X) [0, 1, 5] body34_1 [(0, .l (encG l)), (1, .i .i64 id), (5, .i .i64 0)] = some (optE (fun (_ : Nat) => (.r, [(4, .b true)])) (.e 0, []) (posP l id)) := by
  have := loopK_code (o := O X) (kin := [0, 1, 5]) (c := body34_1) (fun i => [(0, .l (encG l)), (1, .i .i64 id), (5, .i .i64 i)]) l.length (pAt l id) (fun (_ : Nat) => (.r, [(4, .b true)])) (.e 0, []) (by simp) (by simp) (fun i hi => by
    have hw := wrap_i64 (i + 1) (by omega)
    by_cases hc : l[i].parent = id <;> simp [body34_1, hi, hw, pAt, hc]) (by simp [body34_1]) (by simp)
  exact this
@[simp] theorem e34 (l : List Gl) (id : Int) (h : l.length ≤ 1000) : O X 34 [.l (encG l), .i .i64 id] = some (.b (parentB l id)) := by
  refine orun (fc := code34) rfl rfl rfl ?_
  have hl := l34 (X := X) l id h
  unfold parentB
  cases hq : posP l id <;> rw [hq] at hl <;> simp at hl <;> simp [code34, exec_loopK, hl]
/-! ### Elements -/
def elemG (m : List Gl) (g : Gl) (low : Bool) : Int := if g.id < 1 ∨ 999 < g.id ∨ g.kind < 1 ∨ 5 < g.kind then 1
    else if low = true then 10
    else if nameOk g.name = false then 4
    else if g.parent = 0 then 0
    else match findG m g.parent with
      | none => 11
      | some a => if a.kind = g.kind then 0 else 3
/-- Does an account's Id not rise above that of the one ahead of it? -/
def lowB (l : List Gl) (g : Gl) : Nat → Bool
  | 0 => false
  | k + 1 => match l[k]? with
    | some b => decide (g.id ≤ b.id)
    | none => false
def elemE (l : List Gl) (i : Nat) : Int := match l[i]? with
  | some g => elemG (l.take i) g (lowB l g i)
  | none => 0
structure FineG (l : List Gl) : Prop where
  len : l.length ≤ 1000
  name : ∀ g ∈ l, g.name.length ≤ maxLen
theorem slc_0 (l : List Gl) : opQ (O X) (.slc 4 false true) [.l (encG l), .i .i64 0] = some (.l (encG (l.take 0))) := slc_G l 0 (by omega)
theorem slc_s (l : List Gl) (k : Nat) (h : k + 1 ≤ l.length) : opQ (O X) (.slc 4 false true) [.l (encG l), .i .i64 ((k : Int) + 1)] = some (.l (encG (l.take (k + 1)))) := slc_G l (k + 1) h
set_option maxHeartbeats 8000000 in
theorem e25 (l : List Gl) (i : Nat) (hi : i < l.length) (h : FineG l) : O X 25 [.l (encG l), .i .i64 i] = some (.i .i64 (elemE l i)) := by
  refine orun (fc := code25) rfl rfl rfl ?_
  have hlen := h.len
  have h38 := e38 (X := X) l[i].name (h.name _ (List.getElem_mem hi))
  have h12 := e12 (X := X) (l.take i) l[i].parent (by rw [List.length_take]; omega)
  have hE : elemE l i = elemG (l.take i) l[i] (lowB l l[i] i) := by unfold elemE; rw [List.getElem?_eq_getElem hi]
  rw [hE]
  cases i with
  | zero =>
    have hs := slc_0 (X := X) l
    have hlow : lowB l l[0] 0 = false := rfl
    rw [hlow]
    unfold elemG
    generalize l.take 0 = m at h12 hs ⊢
    by_cases c1 : l[0].id < 1
    · simp (config := { maxSteps := 2000000 }) [code25, hi, c1]
    by_cases c2 : (999 : Int) < l[0].id
    · simp (config := { maxSteps := 2000000 }) [code25, hi, c1, c2]
    by_cases c3 : l[0].kind < 1
    · simp (config := { maxSteps := 2000000 }) [code25, hi, c1, c2, c3]
    by_cases c4 : (5 : Int) < l[0].kind
    · simp (config := { maxSteps := 2000000 }) [code25, hi, c1, c2, c3, c4]
    rw [if_neg (by omega)]
    cases hn : nameOk l[0].name <;> rw [hn] at h38
    · simp (config := { maxSteps := 2000000 }) [code25, hi, c1, c2, c3, c4, h38]
    by_cases c7 : l[0].parent = 0
    · simp (config := { maxSteps := 2000000 }) [code25, hi, c1, c2, c3, c4, h38, c7]
    cases hg : findG m l[0].parent <;> rw [hg] at h12
    · simp [gV, g0] at h12
      simp (config := { maxSteps := 2000000 }) [code25, hi, c1, c2, c3, c4, h38, c7, hs, h12]
    · rename_i a
      simp [gV] at h12
      by_cases c8 : a.kind = l[0].kind <;> simp (config := { maxSteps := 2000000 }) [code25, hi, c1, c2, c3, c4, h38, c7, hs, h12, c8]
  | succ k =>
    have hs := slc_s (X := X) l k (by omega)
    have hk : k < l.length := by omega
    have hlow : lowB l l[k + 1] (k + 1) = decide (l[k + 1].id ≤ l[k].id) := by show (match l[k]? with | some b => decide (l[k + 1].id ≤ b.id) | none => false) = _; rw [List.getElem?_eq_getElem hk]
    rw [hlow]
    have hw : IntKind.i64.wrap (k : Int) = (k : Int) := wrap_i64 _ (by omega)
    have hp : (0 : Int) < (k : Int) + 1 := by omega
    unfold elemG
    generalize l.take (k + 1) = m at h12 hs ⊢
    by_cases c1 : l[k + 1].id < 1
    · simp (config := { maxSteps := 2000000 }) [code25, hi, c1]
    by_cases c2 : (999 : Int) < l[k + 1].id
    · simp (config := { maxSteps := 2000000 }) [code25, hi, c1, c2]
    by_cases c3 : l[k + 1].kind < 1
    · simp (config := { maxSteps := 2000000 }) [code25, hi, c1, c2, c3]
    by_cases c4 : (5 : Int) < l[k + 1].kind
    · simp (config := { maxSteps := 2000000 }) [code25, hi, c1, c2, c3, c4]
    rw [if_neg (by omega)]
    by_cases c5 : l[k + 1].id ≤ l[k].id
    · simp (config := { maxSteps := 2000000 }) [code25, hi, c1, c2, c3, c4, hp, hw, hk, c5]
    cases hn : nameOk l[k + 1].name <;> rw [hn] at h38
    · simp (config := { maxSteps := 2000000 }) [code25, hi, c1, c2, c3, c4, hp, hw, hk, c5, h38]
    by_cases c7 : l[k + 1].parent = 0
    · simp (config := { maxSteps := 2000000 }) [code25, hi, c1, c2, c3, c4, hp, hw, hk, c5, h38, c7]
    cases hg : findG m l[k + 1].parent <;> rw [hg] at h12
    · simp [gV, g0] at h12
      simp (config := { maxSteps := 2000000 }) [code25, hi, c1, c2, c3, c4, hp, hw, hk, c5, h38, c7, hs, h12]
    · rename_i a
      simp [gV] at h12
      by_cases c8 : a.kind = l[k + 1].kind <;> simp (config := { maxSteps := 2000000 }) [code25, hi, c1, c2, c3, c4, hp, hw, hk, c5, h38, c7, hs, h12, c8]
end Go.Proofs.Ytdaclkakglmfeaa
