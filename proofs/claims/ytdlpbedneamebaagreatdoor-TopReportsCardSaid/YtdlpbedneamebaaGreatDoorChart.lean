/-
  The check of the chart: what it computes, and what it says.
-/
import Derived.Test.YtdlpbedneamebaaGreatDoorTot5
namespace Go.Proofs.YtdlpbedneamebaaGreatDoor
open Go.VM
variable {X : Orc}
theorem l76 (s : List UInt8) (h : s.length ≤ 16) (h1 : 1 ≤ s.length) : loopK (O X) [0, 3] body76_1 [(0, .s s), (3, .i .i64 1)] = some (optE (fun _ => (.r, [(2, .b false)])) (.e 0, []) ((List.range (s.length - 1)).findSome? fun k => badM s (k + 1))) := by
  have := loopK_code (o := O X) (kin := [0, 3]) (c := body76_1) (fun k => [(0, .s s), (3, .i .i64 ((k + 1 : Nat) : Int))]) (s.length - 1) (fun k => badM s (k + 1)) (fun _ => (.r, [(2, .b false)])) (.e 0, []) (by simp) (by simp) (fun k hk => by
    have hi : k + 1 < s.length := by omega
    have hw : IntKind.i64.wrap ((k : Int) + 1 + 1) = (k : Int) + 1 + 1 := wrap_i64 _ (by omega)
    have hlt : (k : Int) + 1 < (s.length : Int) := by omega
    generalize hx : s[k + 1] = x
    by_cases h1 : (x.toNat : Int) < 97
    · have h1' : ¬ (97 : Int) ≤ (x.toNat : Int) := by omega
      by_cases h4 : (x.toNat : Int) < 48
      · have h3 : ¬ (x.toNat : Int) = 95 := by omega
        simp [body76_1, hi, hlt, badM, letter, hx, h1, h1', h3, h4]
      · by_cases h5 : (57 : Int) < (x.toNat : Int)
        · by_cases h3 : (x.toNat : Int) = 95 <;> simp [body76_1, hi, hlt, hw, badM, letter, hx, h1, h1', h3, h4, h5]
        · have h3 : ¬ (x.toNat : Int) = 95 := by omega
          simp [body76_1, hi, hlt, hw, badM, letter, hx, h1, h1', h3, h4, h5]
    · have h1' : (97 : Int) ≤ (x.toNat : Int) := by omega
      by_cases h2 : (x.toNat : Int) ≤ 122
      · have h2' : ¬ (122 : Int) < (x.toNat : Int) := by omega
        simp [body76_1, hi, hlt, hw, badM, letter, hx, h1, h1', h2, h2']
      · have h2' : (122 : Int) < (x.toNat : Int) := by omega
        have h3 : ¬ (x.toNat : Int) = 95 := by omega
        have h4 : ¬ (x.toNat : Int) < 48 := by omega
        have h5 : (57 : Int) < (x.toNat : Int) := by omega
        simp [body76_1, hi, hlt, badM, letter, hx, h1, h1', h2, h2', h3, h4, h5]) (by
      have : ((s.length - 1 + 1 : Nat) : Int) = (s.length : Int) := by omega
      rw [this]; simp [body76_1]) (by simp)
  exact this
theorem noBad_iff1 {s : List UInt8} (h0 : 0 < s.length) : noBad s = (letter (s[0].toNat : Int) && ((List.range (s.length - 1)).findSome? fun k => badM s (k + 1)).isNone) := by
  rw [noBad_iff h0]
  cases hq : letter (s[0].toNat : Int) with
  | false => simp
  | true =>
    simp only [Bool.true_and]
    rw [Bool.eq_iff_iff, Option.isNone_iff_eq_none, Option.isNone_iff_eq_none, range_find_none, range_find_none]
    constructor
    · intro h k hk; exact h (k + 1) (by omega)
    · intro h i hi
      cases i with
      | zero => simp [badM, h0, hq]
      | succ i => exact h i (by omega)
theorem e76 (s : List UInt8) : O X 76 [.s s] = some (.b (nameOk s)) := by
  refine orun (fc := code76) rfl rfl rfl ?_
  unfold nameOk
  by_cases h0 : s.length < 1
  · have h0' : s = [] := List.eq_nil_of_length_eq_zero (by omega)
    subst h0'
    simp [code76]
  · have hne : ¬ s = [] := fun e => by subst e; simp at h0
    have h1 : 1 ≤ s.length := by omega
    have hp : 0 < s.length := by omega
    by_cases h2 : 16 < s.length
    · have h2' : (16 : Int) < (s.length : Int) := by omega
      have h3 : ¬ s.length ≤ 16 := by omega
      simp [code76, hne, h2', h3]
    · have h2' : ¬ (16 : Int) < (s.length : Int) := by omega
      have h3 : s.length ≤ 16 := by omega
      rw [noBad_iff1 hp]
      have hl := l76 (X := X) s h3 h1
      generalize hx : s[0] = x
      have hp' : (0 : Int) < (s.length : Int) := by omega
      by_cases k1 : (x.toNat : Int) < 97
      · have k1' : ¬ (97 : Int) ≤ (x.toNat : Int) := by omega
        simp [code76, hne, h2', hp, hx, k1, letter, k1']
      · have k1' : (97 : Int) ≤ (x.toNat : Int) := by omega
        by_cases k2 : (122 : Int) < (x.toNat : Int)
        · have k2' : ¬ (x.toNat : Int) ≤ 122 := by omega
          simp [code76, hne, h2', hp, hx, k1, k2, letter, k2']
        · have k2' : (x.toNat : Int) ≤ 122 := by omega
          cases hq : (List.range (s.length - 1)).findSome? (fun k => badM s (k + 1)) <;> rw [hq] at hl <;> simp [code76, hne, h2', hp, hx, k1, k2, letter, k1', k2', exec_loopK, hl, h1, h3]
theorem slc_G (l : List Gl) (i : Nat) (h : i ≤ l.length) : opQ (O X) (.slc 4 false true) [.l (encG l), .i .i64 i] = some (.l (encG (l.take i))) := by
  have hb : bnds (encG l).length false true [.i .i64 (i : Int)] = some (0, i) := by
    have : (i : Int) ≤ ((encG l).length : Int) := by simp; omega
    simp only [bnds]
    rw [if_pos ⟨by omega, this⟩]
    simp
  have ha : (encG l).all (fun x => x.cells.length == 4) = true := encL_all fun _ => rfl
  simp only [opQ, ha, if_true, hb, Option.map_some, List.drop_zero]
  simp [encL]
def pAt (l : List Gl) (id : Int) (i : Nat) : Option Nat := match l[i]? with
  | some g => if g.parent = id then some i else none
  | none => none
def posP (l : List Gl) (id : Int) : Option Nat := (List.range l.length).findSome? (pAt l id)
def parentB (l : List Gl) (id : Int) : Bool := (posP l id).isSome
theorem l126 (l : List Gl) (id : Int) (h : l.length ≤ 1000) : loopK (O X) [0, 1, 5] body126_1 [(0, .l (encG l)), (1, .i .i64 id), (5, .i .i64 0)] = some (optE (fun (_ : Nat) => (.r, [(4, .b true)])) (.e 0, []) (posP l id)) := by
  have := loopK_code (o := O X) (kin := [0, 1, 5]) (c := body126_1) (fun i => [(0, .l (encG l)), (1, .i .i64 id), (5, .i .i64 i)]) l.length (pAt l id) (fun (_ : Nat) => (.r, [(4, .b true)])) (.e 0, []) (by simp) (by simp) (fun i hi => by
    have hw := wrap_i64 (i + 1) (by omega)
    by_cases hc : l[i].parent = id <;> simp [body126_1, hi, hw, pAt, hc]) (by simp [body126_1]) (by simp)
  exact this
@[simp] theorem e126 (l : List Gl) (id : Int) (h : l.length ≤ 1000) : O X 126 [.l (encG l), .i .i64 id] = some (.b (parentB l id)) := by
  refine orun (fc := code126) rfl rfl rfl ?_
  have hl := l126 (X := X) l id h
  unfold parentB
  cases hq : posP l id <;> rw [hq] at hl <;> simp at hl <;> simp [code126, exec_loopK, hl]
def elemG (m : List Gl) (g : Gl) (low : Bool) : Int := if g.id < 1 ∨ 999 < g.id ∨ g.kind < 1 ∨ 5 < g.kind then 1
    else if low = true then 10
    else if nameOk g.name = false then 4
    else if g.parent = 0 then 0
    else match findG m g.parent with
      | none => 11
      | some a => if a.kind = g.kind then 0 else 3
def lowB (l : List Gl) (g : Gl) : Nat → Bool
  | 0 => false
  | k + 1 => match l[k]? with
    | some b => decide (g.id ≤ b.id)
    | none => false
def elemE (l : List Gl) (i : Nat) : Int := match l[i]? with
  | some g => elemG (l.take i) g (lowB l g i)
  | none => 0
structure FineG (l : List Gl) : Prop where
  len : l.length ≤ 1000
  name : ∀ g ∈ l, g.name.length ≤ maxLen
theorem slc_0 (l : List Gl) : opQ (O X) (.slc 4 false true) [.l (encG l), .i .i64 0] = some (.l (encG (l.take 0))) := slc_G l 0 (by omega)
theorem slc_s (l : List Gl) (k : Nat) (h : k + 1 ≤ l.length) : opQ (O X) (.slc 4 false true) [.l (encG l), .i .i64 ((k : Int) + 1)] = some (.l (encG (l.take (k + 1)))) := slc_G l (k + 1) h
abbrev U := Int × Int
def usesL (p : Plan) : List U := [(p.cash, 1), (p.deposits, 2), (p.interestPaid, 5), (p.interestEarned, 4), (p.feeEarned, 4), (p.tax, 2), (p.clearing, 1), (p.loans, 1), (p.loanInterest, 4), (p.penalty, 4), (p.provision, 2), (p.provisionCost, 5), (p.loss, 5), (p.recovery, 4)]
def useE (l : List Gl) (u : U) : Int := match findG l u.1 with
  | none => 11
  | some g => if parentB l u.1 = true then 11 else if g.kind = u.2 then 0 else 3
theorem e78 (l : List Gl) (id k : Int) (h : l.length ≤ 1000) : O X 78 [.l (encG l), .i .i64 id, .i .i64 k] = some (.i .i64 (useE l (id, k))) := by
  refine orun (fc := code78) rfl rfl rfl ?_
  have h13 := e77 (X := X) l id h
  have h34 := e126 (X := X) l id h
  unfold useE
  cases hg : findG l id with
  | none => rw [hg] at h13; simp [gV, g0] at h13; simp [code78, h13]
  | some g =>
    rw [hg] at h13; simp [gV] at h13
    cases hp : parentB l id <;> rw [hp] at h34
    · by_cases hk : g.kind = k <;> simp [code78, h13, h34, hk]
    · simp [code78, h13, h34]
def elemAt (l : List Gl) (i : Nat) : Option Int := if elemE l i = 0 then none else some (elemE l i)
def useAt (l : List Gl) (us : List U) (i : Nat) : Option Int := match us[i]? with
  | some u => if useE l u = 0 then none else some (useE l u)
  | none => none
def chkG (l : List Gl) (p : Plan) : Int := if l.length < 1 ∨ 40 < l.length then 5 else match (List.range l.length).findSome? (elemAt l) with
  | some e => e
  | none => ((List.range 14).findSome? (useAt l (usesL p))).getD 0
def reg11 : C :=
 (.d [.mv 70 (.t 0), .mv 71 (.t 5), .slc 72 4 false true [(.t 70), (.t 71)], .fa 73 1 1 (.t 6), .q 74 (.ld 1 false) [(.t 73)], .call (some 75) 77 [(.t 72), (.t 74)], .mv 69 (.t 75), .ext 76 0 69, .ext 77 1 69, .alo 7 [(.i .i64 0), (.i .i64 0), (.i .i64 0), (.s [])], .sto 4 (.t 7) (.t 76), .as 8 (.t 77)] [[], [], [0, 1], [], [3], [0, 1, 2, 3, 4], [0, 1, 2, 3, 4, 5], [0, 1, 2, 3, 4, 5, 6], [0, 1, 2, 3, 4, 5, 6], [], [0, 1, 2, 3, 4, 5, 6, 7, 9], [0, 1, 2, 3, 4, 5, 6, 7, 8, 9, 10]] [70, 71, 72, 73, 74, 75, 69, 76, 77])
def body38' : C :=
 (.seq (.seq (.q [(24, (.op (.bin .lss) [(.sl 5), (.op .len [(.sl 0)])]))])
 (.cond (.sl 24) .skip (.exit 0 [0, 3])))
 (.seq (.blk 1 (.seq (.s [.mv 27 (.t 0), .mv 28 (.t 5), .ix 29 4 (.t 27) (.t 28), .q 30 (.ld 4 true) [(.t 29)], .alo 6 [(.i .i64 0), (.i .i64 0), (.i .i64 0), (.s [])], .sto 4 (.t 6) (.t 30)] [27, 28, 29, 30])
 (.seq (.seq (.q [(48, (.ite (.ite (.ite (.op (.bin .lss) [(.op (.ld 1 false) [(.op (.fa 0 1) [(.sl 6)])]), (.k (.i .i64 1))]) (.k (.b true)) (.op (.bin .gtr) [(.op (.ld 1 false) [(.op (.fa 0 1) [(.sl 6)])]), (.k (.i .i64 999))])) (.k (.b true)) (.op (.bin .lss) [(.op (.ld 1 false) [(.op (.fa 2 1) [(.sl 6)])]), (.k (.i .i64 1))])) (.k (.b true)) (.op (.bin .gtr) [(.op (.ld 1 false) [(.op (.fa 2 1) [(.sl 6)])]), (.k (.i .i64 5))])))])
 (.cond (.sl 48) (.seq (.q [(4, (.k (.i .i64 1)))])
 (.ret [4])) .skip))
 (.seq (.seq (.q [(61, (.ite (.op (.bin .gtr) [(.sl 5), (.k (.i .i64 0))]) (.op (.bin .leq) [(.op (.ld 1 false) [(.op (.fa 0 1) [(.sl 6)])]), (.op (.ld 1 false) [(.op (.fa 0 1) [(.op (.ix 4) [(.sl 0), (.op (.bin .sub) [(.sl 5), (.k (.i .i64 1))])])])])]) (.k (.b false))))])
 (.cond (.sl 61) (.seq (.q [(4, (.k (.i .i64 10)))])
 (.ret [4])) .skip))
 (.seq (.seq (.q [(65, (.op (.un .not) [(.op (.call false 76) [(.op (.ld 1 false) [(.op (.fa 3 1) [(.sl 6)])])])]))])
 (.cond (.sl 65) (.seq (.q [(4, (.k (.i .i64 4)))])
 (.ret [4])) .skip))
 (.seq (.seq (.q [(68, (.op (.bin .eql) [(.op (.ld 1 false) [(.op (.fa 1 1) [(.sl 6)])]), (.k (.i .i64 0))]))])
 (.cond (.sl 68) (.exit 1 [0, 3, 5]) .skip))
 (.seq reg11
 (.seq (.seq (.q [(79, (.op (.un .not) [(.sl 8)]))])
 (.cond (.sl 79) (.seq (.q [(4, (.k (.i .i64 11)))])
 (.ret [4])) .skip))
 (.seq (.q [(84, (.op (.bin .neq) [(.op (.ld 1 false) [(.op (.fa 2 1) [(.sl 7)])]), (.op (.ld 1 false) [(.op (.fa 2 1) [(.sl 6)])])]))])
 (.cond (.sl 84) (.seq (.q [(4, (.k (.i .i64 3)))])
 (.ret [4])) .skip))))))))))
 (.q [(5, (.op (.bin .add) [(.sl 5), (.k (.i .i64 1))]))])))
theorem body38_eq : body38_1 = body38' := rfl
abbrev E11 (L : List V) (p : List V) (n : Int) (x : List V) : Env := [(0, .l L), (3, .bx p), (5, .i .i64 n), (6, .bx x), (24, .b true), (48, .b false), (61, .b false), (65, .b false), (68, .b false)]
set_option maxHeartbeats 4000000 in
theorem reg11_run (L M : List V) (p : List V) (n : Int) (x y : Gl) (t : Bool) (hs : opQ (O X) (.slc 4 false true) [.l L, .i .i64 n] = some (.l M)) (h13 : O X 77 [.l M, .i .i64 x.parent] = some (.t [y.v, .b t])) :
    exec (O X) reg11 (E11 L p n x.cells) = some (.n, [(0, .l L), (3, .bx p), (5, .i .i64 n), (6, .bx x.cells), (7, .bx y.cells), (8, .b t), (24, .b true), (48, .b false), (61, .b false), (65, .b false), (68, .b false)]) := by
  simp (config := { maxSteps := 1000000 }) [reg11, hs, h13]
theorem l38b (l : List Gl) (is ks : List Int) (h : l.length ≤ 1000) (hu : is.length ≤ 1000) (hik : is.length = ks.length) : loopK (O X) [0, 9, 10, 11] body38_2 [(0, .l (encG l)), (9, .ow 3 (ints is)), (10, .ow 3 (ints ks)), (11, .i .i64 0)] = some (optE (fun (e : Int) => (.r, [(4, .i .i64 e)])) (.e 2, []) ((List.range is.length).findSome? (useAt l (is.zip ks)))) := by
  have := loopK_code (o := O X) (kin := [0, 9, 10, 11]) (c := body38_2) (fun i => [(0, .l (encG l)), (9, .ow 3 (ints is)), (10, .ow 3 (ints ks)), (11, .i .i64 i)]) is.length (useAt l (is.zip ks)) (fun (e : Int) => (.r, [(4, .i .i64 e)])) (.e 2, []) (by simp) (by simp) (fun i hi => by
    have hw := wrap_i64 (i + 1) (by omega)
    have hk : i < ks.length := by omega
    have h29 := e78 (X := X) l is[i] ks[i] h
    have hz : (is.zip ks)[i]? = some (is[i], ks[i]) := by rw [List.getElem?_eq_getElem (by simp; omega)]; simp
    have hU : useAt l (is.zip ks) i = if useE l (is[i], ks[i]) = 0 then none else some (useE l (is[i], ks[i])) := by unfold useAt; rw [hz]
    rw [hU]
    generalize useE l (is[i], ks[i]) = e at h29
    by_cases h0 : e = 0
    · subst h0; simp [body38_2, hi, hk, hw, h29]
    · simp [body38_2, hi, hk, h29, h0]) (by simp [body38_2]) (by simp)
  exact this
theorem elemG_bad {m : List Gl} {g : Gl} {low : Bool} (h : g.id < 1 ∨ 999 < g.id ∨ g.kind < 1 ∨ 5 < g.kind) : elemG m g low = 1 := if_pos h
theorem elemG_ok {m : List Gl} {g : Gl} {low : Bool} (c1 : ¬ g.id < 1) (c2 : ¬ (999 : Int) < g.id) (c3 : ¬ g.kind < 1) (c4 : ¬ (5 : Int) < g.kind) : elemG m g low = if low = true then 10 else if nameOk g.name = false then 4 else if g.parent = 0 then 0 else match findG m g.parent with
      | none => 11
      | some a => if a.kind = g.kind then 0 else 3 := if_neg (by omega)
set_option maxHeartbeats 8000000 in
theorem l38a (l : List Gl) (p : Plan) (h : FineG l) : loopK (O X) [0, 3, 5] body38_1 [(0, .l (encG l)), (3, .bx p.cells), (5, .i .i64 0)] = some (optE (fun (e : Int) => (.r, [(4, .i .i64 e)])) (.e 0, [(0, .l (encG l)), (3, .bx p.cells)]) ((List.range l.length).findSome? (elemAt l))) := by
  have hlen := h.len
  rw [body38_eq]
  generalize p.cells = PC
  have := loopK_code (o := O X) (kin := [0, 3, 5]) (c := body38') (fun i => [(0, .l (encG l)), (3, .bx PC), (5, .i .i64 i)]) l.length (elemAt l) (fun (e : Int) => (.r, [(4, .i .i64 e)])) (.e 0, [(0, .l (encG l)), (3, .bx PC)]) (by simp) (by simp) (fun i hi => by
    have hw := wrap_i64 (i + 1) (by omega)
    have h28 := e76 (X := X) l[i].name
    have h13 := e77 (X := X) (l.take i) l[i].parent (by rw [List.length_take]; omega)
    have hE : elemE l i = elemG (l.take i) l[i] (lowB l l[i] i) := by unfold elemE; rw [List.getElem?_eq_getElem hi]
    unfold elemAt
    rw [hE]
    have hw1 : IntKind.i64.wrap 1 = 1 := wrap_i64 _ (by omega)
    by_cases c1 : l[i].id < 1
    · rw [elemG_bad (.inl c1)]; simp [body38', hi, c1]
    by_cases c2 : (999 : Int) < l[i].id
    · rw [elemG_bad (.inr (.inl c2))]; simp [body38', hi, c1, c2]
    by_cases c3 : l[i].kind < 1
    · rw [elemG_bad (.inr (.inr (.inl c3)))]; simp [body38', hi, c1, c2, c3]
    by_cases c4 : (5 : Int) < l[i].kind
    · rw [elemG_bad (.inr (.inr (.inr c4)))]; simp [body38', hi, c1, c2, c3, c4]
    rw [elemG_ok c1 c2 c3 c4]
    cases i with
    | zero =>
      have hlow : lowB l l[0] 0 = false := rfl
      rw [hlow]
      have hr := fun y t => reg11_run (X := X) (encG l) (encG (l.take 0)) PC 0 l[0] y t (slc_0 l)
      simp only [E11] at hr
      cases hn : nameOk l[0].name <;> rw [hn] at h28
      · simp [body38', hi, c1, c2, c3, c4, h28]
      by_cases c7 : l[0].parent = 0
      · simp [body38', hi, c1, c2, c3, c4, h28, c7, hw1]
      cases hg : findG (l.take 0) l[0].parent <;> rw [hg] at h13
      · have hr1 := hr g0 false h13
        simp [g0] at hr1
        simp [body38', hi, c1, c2, c3, c4, h28, c7, hr1]
      · rename_i a
        have hr1 := hr a true h13
        by_cases c8 : a.kind = l[0].kind
        · simp [body38', hi, c1, c2, c3, c4, h28, c7, hr1, c8, hw1]
        · simp [body38', hi, c1, c2, c3, c4, h28, c7, hr1, c8]
    | succ k =>
      have hk : k < l.length := by omega
      have hlow : lowB l l[k + 1] (k + 1) = decide (l[k + 1].id ≤ l[k].id) := by show (match l[k]? with | some b => decide (l[k + 1].id ≤ b.id) | none => false) = _; rw [List.getElem?_eq_getElem hk]
      rw [hlow]
      have hwk : IntKind.i64.wrap (k : Int) = (k : Int) := wrap_i64 _ (by omega)
      have hp : (0 : Int) < (k : Int) + 1 := by omega
      have hi2 : (k : Int) + 1 < (l.length : Int) := by omega
      have hnn : (0 : Int) ≤ (k : Int) + 1 := by omega
      have hw2 : IntKind.i64.wrap ((k : Int) + 1 + 1) = (k : Int) + 1 + 1 := wrap_i64 _ (by omega)
      have hr := fun y t => reg11_run (X := X) (encG l) (encG (l.take (k + 1))) PC ((k : Int) + 1) l[k + 1] y t (slc_s l k (by omega))
      simp only [E11] at hr
      by_cases c5 : l[k + 1].id ≤ l[k].id
      · simp [body38', hi, c1, c2, c3, c4, hp, hwk, hk, hi2, hnn, c5]
      cases hn : nameOk l[k + 1].name <;> rw [hn] at h28
      · simp [body38', hi, c1, c2, c3, c4, hp, hwk, hk, hi2, hnn, c5, h28]
      by_cases c7 : l[k + 1].parent = 0
      · simp [body38', hi, c1, c2, c3, c4, hp, hwk, hk, hi2, hnn, c5, h28, c7, hw2]
      cases hg : findG (l.take (k + 1)) l[k + 1].parent <;> rw [hg] at h13
      · have hr1 := hr g0 false h13
        simp [g0] at hr1
        simp [body38', hi, c1, c2, c3, c4, hp, hwk, hk, hi2, hnn, c5, h28, c7, hr1]
      · rename_i a
        have hr1 := hr a true h13
        by_cases c8 : a.kind = l[k + 1].kind
        · simp [body38', hi, c1, c2, c3, c4, hp, hwk, hk, hi2, hnn, c5, h28, c7, hr1, c8, hw2]
        · simp [body38', hi, c1, c2, c3, c4, hp, hwk, hk, hi2, hnn, c5, h28, c7, hr1, c8]) (by simp [body38']) (by simp)
  exact this
def ids11 (p : Plan) : List Int := [p.cash, p.deposits, p.interestPaid, p.interestEarned, p.feeEarned, p.tax, p.clearing, p.loans, p.loanInterest, p.penalty, p.provision, p.provisionCost, p.loss, p.recovery]
def kinds11 : List Int := [1, 2, 5, 4, 4, 2, 1, 1, 4, 4, 2, 5, 5, 4]
theorem zip11 (p : Plan) : (ids11 p).zip kinds11 = usesL p := rfl
def mid11a : C :=
 (.s [.fa 85 0 1 (.t 3), .q 86 (.ld 1 false) [(.t 85)], .fa 87 1 1 (.t 3), .q 88 (.ld 1 false) [(.t 87)], .fa 89 2 1 (.t 3), .q 90 (.ld 1 false) [(.t 89)], .fa 91 3 1 (.t 3), .q 92 (.ld 1 false) [(.t 91)], .fa 93 4 1 (.t 3), .q 94 (.ld 1 false) [(.t 93)], .fa 95 5 1 (.t 3), .q 96 (.ld 1 false) [(.t 95)], .fa 97 6 1 (.t 3), .q 98 (.ld 1 false) [(.t 97)], .fa 99 7 1 (.t 3), .q 100 (.ld 1 false) [(.t 99)], .fa 101 8 1 (.t 3), .q 102 (.ld 1 false) [(.t 101)], .fa 103 9 1 (.t 3), .q 104 (.ld 1 false) [(.t 103)], .fa 105 10 1 (.t 3), .q 106 (.ld 1 false) [(.t 105)], .fa 107 11 1 (.t 3), .q 108 (.ld 1 false) [(.t 107)], .fa 109 12 1 (.t 3), .q 110 (.ld 1 false) [(.t 109)], .fa 111 13 1 (.t 3), .q 112 (.ld 1 false) [(.t 111)], .bsl 113 3 1 [(.t 86), (.t 88), (.t 90), (.t 92), (.t 94), (.t 96), (.t 98), (.t 100), (.t 102), (.t 104), (.t 106), (.t 108), (.t 110), (.t 112)], .as 9 (.t 113)] [85, 86, 87, 88, 89, 90, 91, 92, 93, 94, 95, 96, 97, 98, 99, 100, 101, 102, 103, 104, 105, 106, 107, 108, 109, 110, 111, 112, 113])
def mid11b : C :=
 (.s [.bsl 114 3 1 [(.c (.i .i64 1)), (.c (.i .i64 2)), (.c (.i .i64 5)), (.c (.i .i64 4)), (.c (.i .i64 4)), (.c (.i .i64 2)), (.c (.i .i64 1)), (.c (.i .i64 1)), (.c (.i .i64 4)), (.c (.i .i64 4)), (.c (.i .i64 2)), (.c (.i .i64 5)), (.c (.i .i64 5)), (.c (.i .i64 4))], .as 10 (.t 114)] [114])
def code38' : FCode := ⟨2, [.tmp 4],
 (.seq (.s [.box 3 (.t 1), .as 4 (.c (.i .i64 0))] [])
 (.seq (.seq (.q [(20, (.ite (.op (.bin .lss) [(.op .len [(.sl 0)]), (.k (.i .i64 1))]) (.k (.b true)) (.op (.bin .gtr) [(.op .len [(.sl 0)]), (.k (.i .i64 40))])))])
 (.cond (.sl 20) (.seq (.q [(4, (.k (.i .i64 5)))])
 (.ret [4])) .skip))
 (.seq (.seq (.q [(5, (.k (.i .i64 0)))])
 (.blk 0 (.loop [0, 3, 5] body38_1)))
 (.seq mid11a
 (.seq mid11b
 (.seq (.seq (.q [(11, (.k (.i .i64 0)))])
 (.blk 2 (.loop [0, 9, 10, 11] body38_2)))
 (.seq (.q [(4, (.k (.i .i64 0)))])
 (.ret [4]))))))))⟩
theorem mid11_run1 (L : List V) (p : Plan) : exec (O X) mid11a [(0, .l L), (3, .bx p.cells)] = some (.n, [(0, .l L), (3, .bx p.cells), (9, .ow 3 (ints (ids11 p)))]) := by
  kernel_rfl
theorem mid11_run2 (L PC A : List V) : exec (O X) mid11b [(0, .l L), (3, .bx PC), (9, .ow 3 A)] = some (.n, [(0, .l L), (3, .bx PC), (9, .ow 3 A), (10, .ow 3 (ints kinds11))]) := by
  kernel_rfl
theorem e38 (l : List Gl) (p : Plan) (hn : ∀ g ∈ l, g.name.length ≤ maxLen) (_h : l.length ≤ maxLen) : O X 38 [.l (encG l), p.v] = some (.i .i64 (chkG l p)) := by
  refine orun (fc := code38') rfl rfl rfl ?_
  unfold chkG
  by_cases h1 : l.length < 1
  · have h1' : (l.length : Int) < 1 := by omega
    simp [code38', h1', h1]
  · have h1' : ¬ (l.length : Int) < 1 := by omega
    by_cases h2 : 40 < l.length
    · have h2' : (40 : Int) < (l.length : Int) := by omega
      simp [code38', h1', h2', h2]
    · have h2' : ¬ (40 : Int) < (l.length : Int) := by omega
      rw [if_neg (by omega)]
      have ha := l38a (X := X) l p ⟨by omega, hn⟩
      have hm := mid11_run1 (X := X) (encG l) p
      have hm2 := fun PC A => mid11_run2 (X := X) (encG l) PC A
      have hb := l38b (X := X) l (ids11 p) kinds11 (by omega) (by show 14 ≤ 1000; omega) rfl
      rw [zip11] at hb
      have hul : (ids11 p).length = 14 := rfl
      rw [hul] at hb
      generalize usesL p = us at hb ⊢
      generalize ints (ids11 p) = A at hm hb
      generalize ints kinds11 = B at hm2 hb
      have hv : p.v = .a p.cells := rfl
      have hcl : p.cells.length = 14 := rfl
      have hcc : (∀ y ∈ p.cells, y.cell = true) = True := by simp
      rw [hv]
      generalize p.cells = PC at ha hm hcl hcc ⊢
      cases hq : (List.range l.length).findSome? (elemAt l) <;> rw [hq] at ha <;> simp at ha
      · cases hq2 : (List.range 14).findSome? (useAt l us) <;> rw [hq2] at hb <;> simp at hb <;> simp [code38', exec_loopK, h1', h2', hcc, ha, hm, hm2, hb]
      · simp [code38', exec_loopK, h1', h2', hcc, ha]
variable {l : List Gl}
structure Good (l : List Gl) : Prop where
  len : l.length ≤ 40
  asc : ∀ i j (hi : i < l.length) (hj : j < l.length), i < j → l[i].id < l[j].id
  par : ∀ i (hi : i < l.length), l[i].parent = 0 ∨ ∃ j, ∃ hj : j < i, (l[j]'(by omega)).id = l[i].parent
  pos : ∀ i (hi : i < l.length), 1 ≤ l[i].id
theorem chk_elem {l : List Gl} {p : Plan} (h : chkG l p = 0) : l.length ≤ 40 ∧ 1 ≤ l.length ∧ ∀ i, i < l.length → elemE l i = 0 := by
  unfold chkG at h
  split at h
  · cases h
  · rename_i hl
    refine ⟨by omega, by omega, fun i hi => ?_⟩
    cases hq : (List.range l.length).findSome? (elemAt l) with
    | none =>
      have := range_find_none.1 hq i hi
      unfold elemAt at this
      split at this
      · assumption
      · cases this
    | some e =>
      rw [hq] at h
      simp only at h
      obtain ⟨k, hk, hp⟩ := List.exists_of_findSome?_eq_some hq
      unfold elemAt at hp
      split at hp
      · cases hp
      · simp only [Option.some.injEq] at hp
        rename_i hne
        exact absurd (hp.trans h) hne
theorem findG_some {l : List Gl} {id : Int} {g : Gl} (h : findG l id = some g) : ∃ i, ∃ hi : i < l.length, l[i] = g ∧ g.id = id := by
  unfold findG at h
  obtain ⟨k, hk, hp⟩ := List.exists_of_findSome?_eq_some h
  have hk' : k < l.length := List.mem_range.1 hk
  simp only [gAt, List.getElem?_eq_getElem hk'] at hp
  split at hp
  · rename_i he
    simp only [Option.some.injEq] at hp
    exact ⟨k, hk', hp, hp ▸ he⟩
  · cases hp
theorem good_of {l : List Gl} {p : Plan} (h : chkG l p = 0) : Good l := by
  obtain ⟨h1, h2, h3⟩ := chk_elem h
  have info : ∀ i (hi : i < l.length), 1 ≤ l[i].id ∧ lowB l l[i] i = false ∧ (l[i].parent = 0 ∨ ∃ a, findG (l.take i) l[i].parent = some a) := by
    intro i hi
    have := h3 i hi
    unfold elemE at this
    rw [List.getElem?_eq_getElem hi] at this
    simp only [elemG] at this
    split at this
    · cases this
    · rename_i hc
      split at this
      · cases this
      · rename_i hlow
        refine ⟨by omega, by simpa using hlow, ?_⟩
        split at this
        · cases this
        · split at this
          · exact .inl ‹_›
          · split at this
            · cases this
            · rename_i a ha
              exact .inr ⟨a, ha⟩
  have step : ∀ k (hk : k + 1 < l.length), l[k].id < l[k + 1].id := by
    intro k hk
    have := (info (k + 1) hk).2.1
    have hk' : k < l.length := by omega
    have hlow : lowB l l[k + 1] (k + 1) = decide (l[k + 1].id ≤ l[k].id) := by show (match l[k]? with | some b => decide (l[k + 1].id ≤ b.id) | none => false) = _; rw [List.getElem?_eq_getElem hk']
    rw [hlow] at this
    simp only [decide_eq_false_iff_not] at this
    omega
  refine ⟨h1, fun i j hi hj hij => ?_, fun i hi => ?_, fun i hi => (info i hi).1⟩
  · induction j with
    | zero => omega
    | succ j ih =>
      by_cases e : i = j
      · subst e; exact step i hj
      · have := ih (by omega) (by omega)
        have := step j hj
        omega
  · rcases (info i hi).2.2 with h | ⟨a, ha⟩
    · exact .inl h
    · right
      obtain ⟨j, hj, he, hid⟩ := findG_some ha
      rw [List.length_take] at hj
      refine ⟨j, by omega, ?_⟩
      rw [List.getElem_take] at he
      rw [he]; exact hid
theorem Good.inj (h : Good l) {i j : Nat} (hi : i < l.length) (hj : j < l.length) (e : l[i].id = l[j].id) : i = j := by
  rcases Nat.lt_trichotomy i j with h1 | h1 | h1
  · have := h.asc i j hi hj h1; omega
  · exact h1
  · have := h.asc j i hj hi h1; omega
theorem Good.find (h : Good l) {i : Nat} (hi : i < l.length) : findG l l[i].id = some l[i] := by
  cases hq : findG l l[i].id with
  | none =>
    have := range_find_none.1 hq i hi
    simp [gAt, hi] at this
  | some g =>
    obtain ⟨j, hj, he, hid⟩ := findG_some hq
    have := h.inj hj hi (by rw [he]; exact hid)
    subst this
    rw [he]
theorem under_iff (id root : Int) : under l id root = true ↔ root ∈ path l id := by
  unfold under
  cases hq : posI (path l id) root with
  | none =>
    simp only [Option.isSome_none, Bool.false_eq_true, false_iff]
    intro hm
    obtain ⟨i, hi, he⟩ := List.getElem_of_mem hm
    have := range_find_none.1 hq i hi
    simp [iAt, hi, he] at this
  | some i =>
    simp only [Option.isSome_some, true_iff]
    obtain ⟨k, hk, hp⟩ := List.exists_of_findSome?_eq_some hq
    have hk' : k < (path l id).length := List.mem_range.1 hk
    simp only [iAt, List.getElem?_eq_getElem hk'] at hp
    split at hp
    · rename_i he; rw [he]; exact List.getElem_mem hk'
    · cases hp
end Go.Proofs.YtdlpbedneamebaaGreatDoor
