/-
  What the functions that the laws reach compute: the check of a catalog; the versions of a product; days.
-/
import Derived.Test.YtlmbgmobghmmmaaSpec
namespace Go.Proofs.Ytlmbgmobghmmmaa
open Go.VM
def ordB (l : List Product) (i : Nat) : Option Unit := match l[i]?, l[i + 1]? with
  | some a, some b => if befB a b = true then none else some ()
  | _, _ => none
def curB (l : List Product) (i : Nat) : Option Unit := match l[i]?, l[i + 1]? with
  | some a, some b => if b.name = a.name ∧ b.currency ≠ a.currency then some () else none
  | _, _ => none
def ordS (l : List Product) : Option Unit := (List.range (l.length - 1)).findSome? (ordB l)
def curS (l : List Product) : Option Unit := (List.range (l.length - 1)).findSome? (curB l)
def chk (l : List Product) : Int := if 64 < l.length then 5 else if (ordS l).isSome = true then 10 else if (curS l).isSome = true then 14 else 0
theorem ge_bef (a b : Product) : decide (0 ≤ cmpP a b) = !befB a b := by
  rw [← cmpP_lt]
  by_cases h : cmpP a b < 0
  · have : ¬ 0 ≤ cmpP a b := by omega
    simp [h, this]
  · have : 0 ≤ cmpP a b := by omega
    simp [h, this]
theorem l10a (l : List Product) (h : l.length ≤ 1000) : loopK O [0, 3] body10_1 [(0, .l (encL Product.v l)), (3, .i .i64 1)] = some (optE (fun (_ : Unit) => (.r, [(2, .i .i64 10)])) (.e 0, [(0, .l (encL Product.v l))]) (ordS l)) := by
  have := loopK_code (o := O) (kin := [0, 3]) (c := body10_1) (fun i => [(0, .l (encL Product.v l)), (3, .i .i64 (i + 1))]) (l.length - 1) (ordB l) (fun (_ : Unit) => (.r, [(2, .i .i64 10)])) (.e 0, [(0, .l (encL Product.v l))]) (by simp) (by simp) (fun i hi => by
    have hi0 : i < l.length := by omega
    have hi1 : i + 1 < l.length := by omega
    have hw := wrap_i64 ((i : Int) + 1 + 1) (by omega)
    have hwi := wrap_i64 (i : Int) (by omega)
    have hlt : (i : Int) + 1 < l.length := by omega
    have ht : ((i : Int) + 1).toNat = i + 1 := by omega
    have hg := ge_bef l[i] l[i + 1]
    have h0 : (0 : Int) ≤ (i : Int) + 1 := by omega
    have ho : ordB l i = if befB l[i] l[i + 1] = true then none else some () := by simp [ordB, hi0, hi1]
    rw [ho]
    cases hb : befB l[i] l[i + 1] <;> rw [hb] at hg <;> simp at hg <;> simp [body10_1, hi0, hi1, hw, hwi, hlt, hg]) (by
      have : ¬ ((l.length - 1 : Nat) : Int) + 1 < l.length := by omega
      simp [body10_1, this]) (by simp)
  exact this
theorem l10b (l : List Product) (h : l.length ≤ 1000) : loopK O [0, 4] body10_2 [(0, .l (encL Product.v l)), (4, .i .i64 1)] = some (optE (fun (_ : Unit) => (.r, [(2, .i .i64 14)])) (.e 2, []) (curS l)) := by
  have := loopK_code (o := O) (kin := [0, 4]) (c := body10_2) (fun i => [(0, .l (encL Product.v l)), (4, .i .i64 (i + 1))]) (l.length - 1) (curB l) (fun (_ : Unit) => (.r, [(2, .i .i64 14)])) (.e 2, []) (by simp) (by simp) (fun i hi => by
    have hi0 : i < l.length := by omega
    have hi1 : i + 1 < l.length := by omega
    have hw := wrap_i64 ((i : Int) + 1 + 1) (by omega)
    have hwi := wrap_i64 (i : Int) (by omega)
    have hlt : (i : Int) + 1 < l.length := by omega
    have ho : curB l i = if l[i + 1].name = l[i].name ∧ l[i + 1].currency ≠ l[i].currency then some () else none := by simp [curB, hi0, hi1]
    rw [ho]
    by_cases h1 : l[i + 1].name = l[i].name
    · by_cases h2 : l[i + 1].currency = l[i].currency <;> simp [body10_2, hi0, hi1, hw, hwi, hlt, h1, h2]
    · simp [body10_2, hi0, hi1, hw, hwi, hlt, h1]) (by
      have : ¬ ((l.length - 1 : Nat) : Int) + 1 < l.length := by omega
      simp [body10_2, this]) (by simp)
  exact this
theorem e10 (l : List Product) (h : l.length ≤ 1000) : O 10 [.l (encL Product.v l)] = some (.i .i64 (chk l)) := by
  refine orun (fc := code10) rfl rfl rfl ?_
  have h1 := l10a l h
  have h2 := l10b l h
  unfold chk
  by_cases hl : 64 < l.length
  · have : (64 : Int) < l.length := by omega
    simp [code10, hl, this]
  · have hl' : ¬ (64 : Int) < l.length := by omega
    cases ho : ordS l <;> rw [ho] at h1
    · cases hc : curS l <;> rw [hc] at h2 <;> simp [code10, hl, hl', exec_loopK, h1, h2]
    · simp [code10, hl, hl', exec_loopK, h1]
theorem l11a (l : List Product) (h : l.length ≤ 1000) : loopK O [0, 3] body11_1 [(0, .l (encL Product.v l)), (3, .i .i64 1)] = some (optE (fun (_ : Unit) => (.r, [(2, .i .i64 10)])) (.e 0, [(0, .l (encL Product.v l))]) (ordS l)) := by
  have := loopK_code (o := O) (kin := [0, 3]) (c := body11_1) (fun i => [(0, .l (encL Product.v l)), (3, .i .i64 (i + 1))]) (l.length - 1) (ordB l) (fun (_ : Unit) => (.r, [(2, .i .i64 10)])) (.e 0, [(0, .l (encL Product.v l))]) (by simp) (by simp) (fun i hi => by
    have hi0 : i < l.length := by omega
    have hi1 : i + 1 < l.length := by omega
    have hw := wrap_i64 ((i : Int) + 1 + 1) (by omega)
    have hwi := wrap_i64 (i : Int) (by omega)
    have hlt : (i : Int) + 1 < l.length := by omega
    have ho : ordB l i = if befB l[i] l[i + 1] = true then none else some () := by simp [ordB, hi0, hi1]
    rw [ho]
    cases hb : befB l[i] l[i + 1] <;> simp [body11_1, hi0, hi1, hw, hwi, hlt, hb]) (by
      have : ¬ ((l.length - 1 : Nat) : Int) + 1 < l.length := by omega
      simp [body11_1, this]) (by simp)
  exact this
theorem l11b (l : List Product) (h : l.length ≤ 1000) : loopK O [0, 4] body11_2 [(0, .l (encL Product.v l)), (4, .i .i64 1)] = some (optE (fun (_ : Unit) => (.r, [(2, .i .i64 14)])) (.e 2, []) (curS l)) := l10b l h
theorem e11 (l : List Product) (h : l.length ≤ 1000) : O 11 [.l (encL Product.v l)] = some (.i .i64 (chk l)) := by
  refine orun (fc := code11) rfl rfl rfl ?_
  have h1 := l11a l h
  have h2 := l11b l h
  unfold chk
  by_cases hl : 64 < l.length
  · have : (64 : Int) < l.length := by omega
    simp [code11, hl, this]
  · have hl' : ¬ (64 : Int) < l.length := by omega
    cases ho : ordS l <;> rw [ho] at h1
    · cases hc : curS l <;> rw [hc] at h2 <;> simp [code11, hl, hl', exec_loopK, h1, h2]
    · simp [code11, hl, hl', exec_loopK, h1]
/-! ### Small catalogs -/
def feeBad (f : Fee) : Bool := decide (100 < f.name.length) || (decide (0 < f.when.args.length) || (decide (0 < f.amount.args.length) || (decide (100 < f.when.s.length) || decide (100 < f.amount.s.length))))
def ruleBad (r : Rule) : Bool := decide (100 < r.name.length) || (decide (0 < r.amount.args.length) || decide (100 < r.amount.s.length))
def sizeBad (p : Product) : Bool := decide (100 < p.name.length) || (decide (100 < p.currency.length) || (decide (100 < p.calendar.length) || (decide (20 < p.fees.length) || (decide (20 < p.rules.length) || (decide (20 < p.credit.tiers.length) || decide (20 < p.debit.tiers.length))))))
def atBad {α : Type} (q : α → Bool) (l : List α) (i : Nat) : Option Unit := match l[i]? with
  | some x => if q x = true then some () else none
  | none => none
def anyBad {α : Type} (q : α → Bool) (l : List α) : Option Unit := (List.range l.length).findSome? (atBad q l)
theorem anyBad_none {α : Type} {q : α → Bool} {l : List α} : anyBad q l = none ↔ ∀ x ∈ l, q x = false := by
  unfold anyBad
  rw [range_find_none]
  constructor
  · intro h x hx
    obtain ⟨i, hi, rfl⟩ := List.getElem_of_mem hx
    have := h i hi
    simp only [atBad, List.getElem?_eq_getElem hi] at this
    cases hq : q l[i] with
    | false => rfl
    | true => rw [hq] at this; simp at this
  · intro h i hi
    simp [atBad, hi, h _ (List.getElem_mem hi)]
def prodBad (p : Product) : Bool := sizeBad p || ((anyBad feeBad p.fees).isSome || (anyBad ruleBad p.rules).isSome)
def lightB (l : List Product) : Bool := !(decide (100 < l.length)) && (anyBad prodBad l).isNone
end Go.Proofs.Ytlmbgmobghmmmaa
