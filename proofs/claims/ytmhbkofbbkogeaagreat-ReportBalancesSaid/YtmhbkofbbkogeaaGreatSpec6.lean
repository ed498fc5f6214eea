/-
  What the functions that the laws reach compute: the sizes that the laws ask for.
-/
import Derived.Test.YtmhbkofbbkogeaaGreatSpec
import Derived.Test.YtmhbkofbbkogeaaGreatSpec3
namespace Go.Proofs.YtmhbkofbbkogeaaGreat
open Go.VM
variable {X : Orc}
/-- The answer of a call that answers yes or no. -/
def gB : Option V → Bool
  | some (.b t) => t
  | _ => false
theorem gB_eq {o : Option V} (h : ∃ t, o = some (.b t)) : o = some (.b (gB o)) := by
  obtain ⟨t, rfl⟩ := h; rfl
@[simp] theorem gB_b (t : Bool) : gB (some (.b t)) = t := rfl
/-! ### Expressions -/
abbrev E47 (m : Int) (op k : Int) (s : List UInt8) (args : List V) (n : Int) (i : Nat) : Env := [(1, .i .i64 m), (2, .bx [.i .i64 op, .i .i64 k, .s s, .l args]), (5, .i .i64 n), (6, .i .i64 i)]
theorem l75 (m : Nat) (hm : m ≤ 1000) (op k : Int) (s : List UInt8) (args : List V) (hl : args.length ≤ maxLen)
    (hc : 0 < m → ∀ y ∈ args, y.cells.length = 4 ∧ ∀ q : Nat, q < m → ∃ z : Int, O X 75 [.a y.cells, .i .i64 q] = some (.i .i64 z) ∧ 1 ≤ z ∧ z ≤ q + 1) :
    ∀ (r i : Nat) (n : Int), i + r = args.length → 1 ≤ n → n ≤ m + 1 → ∃ z : Int, loopK (O X) [1, 2, 5, 6] body75_1 (E47 m op k s args n i) = some (.e 0, [(5, .i .i64 z)]) ∧ 1 ≤ z ∧ z ≤ m + 1
  | 0, i, n, hi, h1, h2 => by
    have hi' : ¬ (i : Int) < (args.length : Int) := by omega
    refine ⟨n, loopK_end (by simp) ?_ (by simp), h1, h2⟩
    simp [body75_1, hi']
  | r + 1, i, n, hi, h1, h2 => by
    have hi' : (i : Int) < (args.length : Int) := by omega
    have hil : i < args.length := by omega
    by_cases hn : n ≤ m
    · obtain ⟨h4, hq⟩ := hc (by omega) _ (List.getElem_mem hil)
      obtain ⟨z, hz, hz1, hz2⟩ := hq ((m : Int) - n).toNat (by omega)
      have hq' : ((((m : Int) - n).toNat : Nat) : Int) = (m : Int) - n := by omega
      rw [hq'] at hz hz2
      obtain ⟨y, hy, hy1, hy2⟩ := l75 m hm op k s args hl hc r (i + 1) (n + z) (by omega) (by omega) (by omega)
      refine ⟨y, ?_, hy1, hy2⟩
      rw [← hy]
      refine loopK_go (by simp) (by simp) ?_
      have hw1 := wrap_i64 ((m : Int) - n) (by omega)
      have hw2 := wrap_i64 (n + z) (by omega)
      have hw3 := wrap_i64 ((i : Int) + 1) (by unfold maxLen at hl; omega)
      simp [body75_1, hil, hn, h4, hw1, hz, hw2, hw3]
    · refine ⟨n, loopK_end (by simp) ?_ (by simp), h1, h2⟩
      simp [body75_1, hi', hn]
theorem exT_le : ∀ {n m : Nat} {ys : List V}, n ≤ m → exT m ys → exT n ys
  | 0, _, _, _, _ => trivial
  | n + 1, 0, _, hm, _ => by omega
  | n + 1, m + 1, _, hm, ⟨op, k, s, args, h1, h2, h3⟩ => ⟨op, k, s, args, h1, h2, fun y hy => by
    obtain ⟨zs, h4, h5⟩ := h3 y hy
    exact ⟨zs, h4, exT_le (by omega) h5⟩⟩
theorem e75 : ∀ (m : Nat), m ≤ 1000 → ∀ ys : List V, exT (m + 1) ys → ∃ z : Int, O X 75 [.a ys, .i .i64 m] = some (.i .i64 z) ∧ 1 ≤ z ∧ z ≤ m + 1 := by
  intro m
  induction m using Nat.strongRecOn with
  | _ m ih =>
    intro hm ys hx
    obtain ⟨op, k, s, args, rfl, hl, ha⟩ := hx
    obtain ⟨z, hz, hz1, hz2⟩ := l75 (X := X) m hm op k s args hl (fun h0 y hy => by
      obtain ⟨zs, rfl, hzs⟩ := ha y hy
      refine ⟨?_, fun q hq => ih q hq (by omega) zs (exT_le (by omega) hzs)⟩
      obtain ⟨_, _, _, _, rfl, _⟩ := exT_le (show 1 ≤ m from h0) hzs
      rfl) args.length 0 1 (by omega) (by omega) (by omega)
    refine ⟨z, orun (fc := code75) rfl rfl rfl ?_, hz1, hz2⟩
    simp [E47] at hz
    simp [code75, exec_loopK, hz]
theorem e57 (e : Expr) (h : exT 102 e.cells) : ∃ t, O X 57 [e.v, .i .i64 100] = some (.b t) := by
  obtain ⟨z, hz, _⟩ := e75 (X := X) 100 (by omega) e.cells (exT_le (by omega) h)
  refine ⟨decide (100 < z), orun (fc := code57) rfl rfl rfl ?_⟩
  simp at hz
  simp [code57, hz]
/-! ### Products -/
noncomputable def feeBad (X : Orc) (l : List Fee) (i : Nat) : Option Unit := match l[i]? with
  | some f => if 100 < f.name.length ∨ gB (O X 57 [f.when.v, .i .i64 100]) = true ∨ gB (O X 57 [f.amount.v, .i .i64 100]) = true then some () else none
  | none => none
noncomputable def ruleBad (X : Orc) (l : List Rule) (i : Nat) : Option Unit := match l[i]? with
  | some f => if 100 < f.name.length ∨ gB (O X 57 [f.amount.v, .i .i64 100]) = true then some () else none
  | none => none
def Fee.okX (f : Fee) : Prop := exT 102 f.when.cells ∧ exT 102 f.amount.cells
def Rule.okX (f : Rule) : Prop := exT 102 f.amount.cells
theorem l28a (p : Product) (h : p.fees.length ≤ 10) (hf : ∀ f ∈ p.fees, f.okX) : loopK (O X) [1, 3] body28_1 [(1, .bx p.cells), (3, .i .i64 0)] = some (optE (fun (_ : Unit) => (.r, [(2, .b true)])) (.e 0, [(1, .bx p.cells)]) ((List.range p.fees.length).findSome? (feeBad X p.fees))) := by
  have := loopK_code (o := O X) (kin := [1, 3]) (c := body28_1) (fun i => [(1, .bx p.cells), (3, .i .i64 i)]) p.fees.length (feeBad X p.fees) (fun (_ : Unit) => (.r, [(2, .b true)])) (.e 0, [(1, .bx p.cells)]) (by simp) (by simp) (fun i hi => by
    have hw := wrap_i64 (i + 1) (by omega)
    have hx := hf _ (List.getElem_mem hi)
    have h1 := gB_eq (e57 (X := X) p.fees[i].when hx.1)
    have h2 := gB_eq (e57 (X := X) p.fees[i].amount hx.2)
    have hn : (100 : Int) < (p.fees[i].name.length : Int) ↔ 100 < p.fees[i].name.length := by omega
    generalize gB (O X 57 [p.fees[i].when.v, .i .i64 100]) = t1 at h1
    generalize gB (O X 57 [p.fees[i].amount.v, .i .i64 100]) = t2 at h2
    by_cases c1 : 100 < p.fees[i].name.length
    · simp [body28_1, hi, hn, c1, feeBad]
    · cases t1
      · cases t2 <;> simp [body28_1, hi, hn, hw, c1, h1, h2, feeBad]
      · simp [body28_1, hi, hn, c1, h1, feeBad]) (by simp [body28_1]) (by simp)
  exact this
theorem l28b (p : Product) (h : p.rules.length ≤ 10) (hf : ∀ f ∈ p.rules, f.okX) : loopK (O X) [1, 4] body28_2 [(1, .bx p.cells), (4, .i .i64 0)] = some (optE (fun (_ : Unit) => (.r, [(2, .b true)])) (.e 2, []) ((List.range p.rules.length).findSome? (ruleBad X p.rules))) := by
  have := loopK_code (o := O X) (kin := [1, 4]) (c := body28_2) (fun i => [(1, .bx p.cells), (4, .i .i64 i)]) p.rules.length (ruleBad X p.rules) (fun (_ : Unit) => (.r, [(2, .b true)])) (.e 2, []) (by simp) (by simp) (fun i hi => by
    have hw := wrap_i64 (i + 1) (by omega)
    have hx := hf _ (List.getElem_mem hi)
    have h2 := gB_eq (e57 (X := X) p.rules[i].amount hx)
    have hn : (100 : Int) < (p.rules[i].name.length : Int) ↔ 100 < p.rules[i].name.length := by omega
    generalize gB (O X 57 [p.rules[i].amount.v, .i .i64 100]) = t2 at h2
    by_cases c1 : 100 < p.rules[i].name.length
    · simp [body28_2, hi, hn, c1, ruleBad]
    · cases t2 <;> simp [body28_2, hi, hn, hw, c1, h2, ruleBad]) (by simp [body28_2]) (by simp)
  exact this
set_option maxHeartbeats 4000000 in
theorem e28 (p : Product) (hf : ∀ f ∈ p.fees, f.okX) (hr : ∀ f ∈ p.rules, f.okX) : ∃ t, O X 28 [p.v] = some (.b t) := by
  by_cases c1 : 100 < p.name.length
  · have c1' : (100 : Int) < (p.name.length : Int) := by omega
    exact ⟨true, orun (fc := code28) rfl rfl rfl (by simp [code28, c1'])⟩
  have c1' : ¬ (100 : Int) < (p.name.length : Int) := by omega
  by_cases c2 : 100 < p.currency.length
  · have c2' : (100 : Int) < (p.currency.length : Int) := by omega
    exact ⟨true, orun (fc := code28) rfl rfl rfl (by simp [code28, c1', c2'])⟩
  have c2' : ¬ (100 : Int) < (p.currency.length : Int) := by omega
  by_cases c3 : 100 < p.calendar.length
  · have c3' : (100 : Int) < (p.calendar.length : Int) := by omega
    exact ⟨true, orun (fc := code28) rfl rfl rfl (by simp [code28, c1', c2', c3'])⟩
  have c3' : ¬ (100 : Int) < (p.calendar.length : Int) := by omega
  by_cases c4 : 20 < p.credit.tiers.length
  · have c4' : (20 : Int) < (p.credit.tiers.length : Int) := by omega
    exact ⟨true, orun (fc := code28) rfl rfl rfl (by simp [code28, c1', c2', c3', c4'])⟩
  have c4' : ¬ (20 : Int) < (p.credit.tiers.length : Int) := by omega
  by_cases c5 : 20 < p.debit.tiers.length
  · have c5' : (20 : Int) < (p.debit.tiers.length : Int) := by omega
    exact ⟨true, orun (fc := code28) rfl rfl rfl (by simp [code28, c1', c2', c3', c4', c5'])⟩
  have c5' : ¬ (20 : Int) < (p.debit.tiers.length : Int) := by omega
  by_cases c6 : 10 < p.fees.length
  · have c6' : (10 : Int) < (p.fees.length : Int) := by omega
    exact ⟨true, orun (fc := code28) rfl rfl rfl (by simp [code28, c1', c2', c3', c4', c5', c6'])⟩
  have c6' : ¬ (10 : Int) < (p.fees.length : Int) := by omega
  by_cases c7 : 10 < p.rules.length
  · have c7' : (10 : Int) < (p.rules.length : Int) := by omega
    exact ⟨true, orun (fc := code28) rfl rfl rfl (by simp [code28, c1', c2', c3', c4', c5', c6', c7'])⟩
  have c7' : ¬ (10 : Int) < (p.rules.length : Int) := by omega
  have ha := l28a (X := X) p (by omega) hf
  have hb := l28b (X := X) p (by omega) hr
  cases q1 : (List.range p.fees.length).findSome? (feeBad X p.fees) <;> rw [q1] at ha <;> simp at ha
  · cases q2 : (List.range p.rules.length).findSome? (ruleBad X p.rules) <;> rw [q2] at hb <;> simp at hb
    · exact ⟨false, orun (fc := code28) rfl rfl rfl (by simp [code28, exec_loopK, c1', c2', c3', c4', c5', c6', c7', ha, hb])⟩
    · exact ⟨true, orun (fc := code28) rfl rfl rfl (by simp [code28, exec_loopK, c1', c2', c3', c4', c5', c6', c7', ha, hb])⟩
  · exact ⟨true, orun (fc := code28) rfl rfl rfl (by simp [code28, exec_loopK, c1', c2', c3', c4', c5', c6', c7', ha])⟩
/-! ### Holds, entries -/
abbrev encH (l : List Hold) : List V := encL Hold.v l
def holdBad (l : List Hold) (i : Nat) : Option Unit := match l[i]? with
  | some f => if 200 < f.key.length then some () else none
  | none => none
theorem l27 (l : List Hold) (h : l.length ≤ 100) : loopK (O X) [0, 3] body27_1 [(0, .l (encH l)), (3, .i .i64 0)] = some (optE (fun (_ : Unit) => (.r, [(2, .b true)])) (.e 0, []) ((List.range l.length).findSome? (holdBad l))) := by
  have := loopK_code (o := O X) (kin := [0, 3]) (c := body27_1) (fun i => [(0, .l (encH l)), (3, .i .i64 i)]) l.length (holdBad l) (fun (_ : Unit) => (.r, [(2, .b true)])) (.e 0, []) (by simp) (by simp) (fun i hi => by
    have hw := wrap_i64 (i + 1) (by omega)
    have hn : (200 : Int) < (l[i].key.length : Int) ↔ 200 < l[i].key.length := by omega
    by_cases c1 : 200 < l[i].key.length <;> simp [body27_1, hi, hn, hw, c1, holdBad]) (by simp [body27_1]) (by simp)
  exact this
theorem e27 (l : List Hold) : ∃ t, O X 27 [.l (encH l)] = some (.b t) := by
  by_cases c1 : 100 < l.length
  · have c1' : (100 : Int) < (l.length : Int) := by omega
    exact ⟨true, orun (fc := code27) rfl rfl rfl (by simp [code27, c1'])⟩
  have c1' : ¬ (100 : Int) < (l.length : Int) := by omega
  have hl := l27 (X := X) l (by omega)
  cases q : (List.range l.length).findSome? (holdBad l) <;> rw [q] at hl <;> simp at hl
  · exact ⟨false, orun (fc := code27) rfl rfl rfl (by simp [code27, exec_loopK, c1', hl])⟩
  · exact ⟨true, orun (fc := code27) rfl rfl rfl (by simp [code27, exec_loopK, c1', hl])⟩
def legBad (l : List Leg) (i : Nat) : Option Unit := match l[i]? with
  | some f => if 100 < f.currency.length then some () else none
  | none => none
theorem l29 (e : Entry) (h : e.legs.length ≤ 30) : loopK (O X) [1, 3] body29_1 [(1, .bx e.cells), (3, .i .i64 0)] = some (optE (fun (_ : Unit) => (.r, [(2, .b true)])) (.e 0, []) ((List.range e.legs.length).findSome? (legBad e.legs))) := by
  have := loopK_code (o := O X) (kin := [1, 3]) (c := body29_1) (fun i => [(1, .bx e.cells), (3, .i .i64 i)]) e.legs.length (legBad e.legs) (fun (_ : Unit) => (.r, [(2, .b true)])) (.e 0, []) (by simp) (by simp) (fun i hi => by
    have hw := wrap_i64 (i + 1) (by omega)
    have hn : (100 : Int) < (e.legs[i].currency.length : Int) ↔ 100 < e.legs[i].currency.length := by omega
    by_cases c1 : 100 < e.legs[i].currency.length <;> simp [body29_1, hi, hn, hw, c1, legBad]) (by simp [body29_1]) (by simp)
  exact this
theorem e29 (e : Entry) : ∃ t, O X 29 [e.v] = some (.b t) ∧ (t = false → e.legs.length ≤ 30) := by
  by_cases c1 : 30 < e.legs.length
  · have c1' : (30 : Int) < (e.legs.length : Int) := by omega
    exact ⟨true, orun (fc := code29) rfl rfl rfl (by simp [code29, c1']), by simp⟩
  have c1' : ¬ (30 : Int) < (e.legs.length : Int) := by omega
  have hle : e.legs.length ≤ 30 := by omega
  by_cases c2 : 1000 < e.key.length
  · have c2' : (1000 : Int) < (e.key.length : Int) := by omega
    exact ⟨true, orun (fc := code29) rfl rfl rfl (by simp [code29, c1', c2']), fun _ => hle⟩
  have c2' : ¬ (1000 : Int) < (e.key.length : Int) := by omega
  by_cases c3 : 1000 < e.text.length
  · have c3' : (1000 : Int) < (e.text.length : Int) := by omega
    exact ⟨true, orun (fc := code29) rfl rfl rfl (by simp [code29, c1', c2', c3']), fun _ => hle⟩
  have c3' : ¬ (1000 : Int) < (e.text.length : Int) := by omega
  have hl := l29 (X := X) e hle
  cases q : (List.range e.legs.length).findSome? (legBad e.legs) <;> rw [q] at hl <;> simp at hl
  · exact ⟨false, orun (fc := code29) rfl rfl rfl (by simp [code29, exec_loopK, c1', c2', c3', hl]), fun _ => hle⟩
  · exact ⟨true, orun (fc := code29) rfl rfl rfl (by simp [code29, exec_loopK, c1', c2', c3', hl]), fun _ => hle⟩
end Go.Proofs.YtmhbkofbbkogeaaGreat
namespace Go.Proofs.YtmhbkofbbkogeaaGreat
open Go.VM
variable {X : Orc}
/-! ### Rows -/
def rowBig (l : List Row) (i : Nat) : Option Unit := match l[i]? with
  | some f => if 20 < f.roots.length ∨ 200 < f.name.length then some () else none
  | none => none
theorem l5 (l : List Row) (h : l.length ≤ 100) : loopK (O X) [0, 3] body5_1 [(0, .l (encR l)), (3, .i .i64 0)] = some (optE (fun (_ : Unit) => (.r, [(2, .b true)])) (.e 0, []) ((List.range l.length).findSome? (rowBig l))) := by
  have := loopK_code (o := O X) (kin := [0, 3]) (c := body5_1) (fun i => [(0, .l (encR l)), (3, .i .i64 i)]) l.length (rowBig l) (fun (_ : Unit) => (.r, [(2, .b true)])) (.e 0, []) (by simp) (by simp) (fun i hi => by
    have hw := wrap_i64 (i + 1) (by omega)
    have hn : (20 : Int) < (l[i].roots.length : Int) ↔ 20 < l[i].roots.length := by omega
    have hm : (200 : Int) < (l[i].name.length : Int) ↔ 200 < l[i].name.length := by omega
    by_cases c1 : 20 < l[i].roots.length
    · simp [body5_1, hi, hn, c1, rowBig]
    · by_cases c2 : 200 < l[i].name.length <;> simp [body5_1, hi, hn, hm, hw, c1, c2, rowBig]) (by simp [body5_1]) (by simp)
  exact this
theorem e5 (l : List Row) : ∃ t, O X 5 [.l (encR l)] = some (.b t) ∧ (t = false → Rows l ∧ l.length ≤ 100) := by
  by_cases c1 : 100 < l.length
  · have c1' : (100 : Int) < (l.length : Int) := by omega
    exact ⟨true, orun (fc := code5) rfl rfl rfl (by simp [code5, c1']), by simp⟩
  have c1' : ¬ (100 : Int) < (l.length : Int) := by omega
  have hl := l5 (X := X) l (by omega)
  cases q : (List.range l.length).findSome? (rowBig l) <;> rw [q] at hl <;> simp at hl
  · refine ⟨false, orun (fc := code5) rfl rfl rfl (by simp [code5, exec_loopK, c1', hl]), fun _ => ⟨?_, by omega⟩⟩
    rw [range_find_none] at q
    have key : ∀ r ∈ l, r.roots.length ≤ 20 ∧ r.name.length ≤ 200 := by
      intro r hr
      obtain ⟨i, hi, rfl⟩ := List.getElem_of_mem hr
      have := q i hi
      simp only [rowBig, List.getElem?_eq_getElem hi] at this
      split at this
      · cases this
      · omega
    refine ⟨fun r hr => ?_, fun r hr => ?_⟩
    · have := (key r hr).1; omega
    · have := (key r hr).2; unfold maxLen; omega
  · exact ⟨true, orun (fc := code5) rfl rfl rfl (by simp [code5, exec_loopK, c1', hl]), by simp⟩
/-! ### Books -/
structure Big (X : Orc) (b : Books) : Prop where
  curs : b.currencies.length ≤ 20
  cals : b.calendars.length ≤ 10
  chart : b.chart.length ≤ 60
  prods : b.products.length ≤ 20
  accs : b.accounts.length ≤ 40
  jour : b.journal.length ≤ 150
  okP : ∀ p ∈ b.products, ∃ t, O X 28 [p.v] = some (.b t)
noncomputable def prodBad (X : Orc) (l : List Product) (i : Nat) : Option Unit := match l[i]? with
  | some p => if gB (O X 28 [p.v]) = true then some () else none
  | none => none
noncomputable def entBad (X : Orc) (l : List Entry) (i : Nat) : Option Unit := match l[i]? with
  | some p => if gB (O X 29 [p.v]) = true then some () else none
  | none => none
def calBad (l : List Calendar) (i : Nat) : Option Unit := match l[i]? with
  | some p => if 400 < p.holidays.length ∨ 20 < p.weekend.length then some () else none
  | none => none
set_option maxHeartbeats 4000000 in
theorem l8a (b : Books) (h : Big X b) : loopK (O X) [1, 3] body8_1 [(1, .bx b.cells), (3, .i .i64 0)] = some (optE (fun (_ : Unit) => (.r, [(2, .b true)])) (.e 0, [(1, .bx b.cells)]) ((List.range b.products.length).findSome? (prodBad X b.products))) := by
  have hp := h.prods
  have := loopK_code (o := O X) (kin := [1, 3]) (c := body8_1) (fun i => [(1, .bx b.cells), (3, .i .i64 i)]) b.products.length (prodBad X b.products) (fun (_ : Unit) => (.r, [(2, .b true)])) (.e 0, [(1, .bx b.cells)]) (by simp) (by simp) (fun i hi => by
    have hw := wrap_i64 (i + 1) (by omega)
    have h1 := gB_eq (h.okP _ (List.getElem_mem hi))
    have hpb : prodBad X b.products i = if gB (O X 28 [b.products[i].v]) = true then some () else none := by simp [prodBad, hi]
    rw [hpb]
    generalize gB (O X 28 [b.products[i].v]) = t1 at h1 ⊢
    cases t1 <;> simp [body8_1, hi, hw, h1]) (by simp [body8_1]) (by simp)
  exact this
theorem l8b (b : Books) (h : Big X b) : loopK (O X) [1, 4] body8_2 [(1, .bx b.cells), (4, .i .i64 0)] = some (optE (fun (_ : Unit) => (.r, [(2, .b true)])) (.e 2, [(1, .bx b.cells)]) ((List.range b.journal.length).findSome? (entBad X b.journal))) := by
  have hp := h.jour
  have := loopK_code (o := O X) (kin := [1, 4]) (c := body8_2) (fun i => [(1, .bx b.cells), (4, .i .i64 i)]) b.journal.length (entBad X b.journal) (fun (_ : Unit) => (.r, [(2, .b true)])) (.e 2, [(1, .bx b.cells)]) (by simp) (by simp) (fun i hi => by
    have hw := wrap_i64 (i + 1) (by omega)
    obtain ⟨t, h1, _⟩ := e29 (X := X) b.journal[i]
    have hpb : entBad X b.journal i = if t = true then some () else none := by simp [entBad, hi, h1]
    rw [hpb]
    cases t <;> simp [body8_2, hi, hw, h1]) (by simp [body8_2]) (by simp)
  exact this
theorem l8c (b : Books) (h : Big X b) : loopK (O X) [1, 5] body8_3 [(1, .bx b.cells), (5, .i .i64 0)] = some (optE (fun (_ : Unit) => (.r, [(2, .b true)])) (.e 4, []) ((List.range b.calendars.length).findSome? (calBad b.calendars))) := by
  have hp := h.cals
  have := loopK_code (o := O X) (kin := [1, 5]) (c := body8_3) (fun i => [(1, .bx b.cells), (5, .i .i64 i)]) b.calendars.length (calBad b.calendars) (fun (_ : Unit) => (.r, [(2, .b true)])) (.e 4, []) (by simp) (by simp) (fun i hi => by
    have hw := wrap_i64 (i + 1) (by omega)
    have hn : (400 : Int) < (b.calendars[i].holidays.length : Int) ↔ 400 < b.calendars[i].holidays.length := by omega
    have hm : (20 : Int) < (b.calendars[i].weekend.length : Int) ↔ 20 < b.calendars[i].weekend.length := by omega
    by_cases c1 : 400 < b.calendars[i].holidays.length
    · simp [body8_3, hi, hn, c1, calBad]
    · by_cases c2 : 20 < b.calendars[i].weekend.length <;> simp [body8_3, hi, hn, hm, hw, c1, c2, calBad]) (by simp [body8_3]) (by simp)
  exact this
set_option maxHeartbeats 8000000 in
theorem e8 (b : Books) (hf : ∀ p ∈ b.products, (∀ f ∈ p.fees, f.okX) ∧ ∀ f ∈ p.rules, f.okX) : ∃ t, O X 8 [b.v] = some (.b t) ∧ (t = false → Fine b ∧ b.currencies.length ≤ 20 ∧ b.journal.length ≤ 150 ∧ Big X b ∧ ∀ c ∈ b.calendars, c.weekend.length ≤ 1000 ∧ c.holidays.length ≤ 1000) := by
  by_cases c1 : 20 < b.currencies.length
  · have c1' : (20 : Int) < (b.currencies.length : Int) := by omega
    exact ⟨true, orun (fc := code8) rfl rfl rfl (by simp [code8, c1']), by simp⟩
  have c1' : ¬ (20 : Int) < (b.currencies.length : Int) := by omega
  by_cases c2 : 10 < b.calendars.length
  · have c2' : (10 : Int) < (b.calendars.length : Int) := by omega
    exact ⟨true, orun (fc := code8) rfl rfl rfl (by simp [code8, c1', c2']), by simp⟩
  have c2' : ¬ (10 : Int) < (b.calendars.length : Int) := by omega
  by_cases c3 : 60 < b.chart.length
  · have c3' : (60 : Int) < (b.chart.length : Int) := by omega
    exact ⟨true, orun (fc := code8) rfl rfl rfl (by simp [code8, c1', c2', c3']), by simp⟩
  have c3' : ¬ (60 : Int) < (b.chart.length : Int) := by omega
  by_cases c4 : 20 < b.products.length
  · have c4' : (20 : Int) < (b.products.length : Int) := by omega
    exact ⟨true, orun (fc := code8) rfl rfl rfl (by simp [code8, c1', c2', c3', c4']), by simp⟩
  have c4' : ¬ (20 : Int) < (b.products.length : Int) := by omega
  by_cases c5 : 40 < b.accounts.length
  · have c5' : (40 : Int) < (b.accounts.length : Int) := by omega
    exact ⟨true, orun (fc := code8) rfl rfl rfl (by simp [code8, c1', c2', c3', c4', c5']), by simp⟩
  have c5' : ¬ (40 : Int) < (b.accounts.length : Int) := by omega
  by_cases c6 : 150 < b.journal.length
  · have c6' : (150 : Int) < (b.journal.length : Int) := by omega
    exact ⟨true, orun (fc := code8) rfl rfl rfl (by simp [code8, c1', c2', c3', c4', c5', c6']), by simp⟩
  have c6' : ¬ (150 : Int) < (b.journal.length : Int) := by omega
  obtain ⟨t, ht⟩ := e27 (X := X) b.holds
  cases t with
  | true => exact ⟨true, orun (fc := code8) rfl rfl rfl (by simp [code8, c1', c2', c3', c4', c5', c6', ht]), by simp⟩
  | false =>
    by_cases c7 : 100 < b.blocks.length
    · have c7' : (100 : Int) < (b.blocks.length : Int) := by omega
      exact ⟨true, orun (fc := code8) rfl rfl rfl (by simp [code8, c1', c2', c3', c4', c5', c6', ht, c7']), by simp⟩
    have c7' : ¬ (100 : Int) < (b.blocks.length : Int) := by omega
    have hB : Big X b := ⟨by omega, by omega, by omega, by omega, by omega, by omega, fun p hp => e28 p (hf p hp).1 (hf p hp).2⟩
    have ha := l8a b hB
    have hb := l8b b hB
    have hc := l8c b hB
    cases q1 : (List.range b.products.length).findSome? (prodBad X b.products) <;> rw [q1] at ha <;> simp at ha
    · cases q2 : (List.range b.journal.length).findSome? (entBad X b.journal) <;> rw [q2] at hb <;> simp at hb
      · have hfine : Fine b := ⟨by omega, by omega, by omega, by omega, fun e he => by
          obtain ⟨i, hi, rfl⟩ := List.getElem_of_mem he
          have := range_find_none.1 q2 i hi
          obtain ⟨t, h1, h2⟩ := e29 (X := X) b.journal[i]
          have hpb : entBad X b.journal i = if t = true then some () else none := by simp [entBad, hi, h1]
          rw [hpb] at this
          cases t with
          | false => have := h2 rfl; omega
          | true => cases this⟩
        cases q3 : (List.range b.calendars.length).findSome? (calBad b.calendars) <;> rw [q3] at hc <;> simp at hc
        · exact ⟨false, orun (fc := code8) rfl rfl rfl (by simp [code8, exec_loopK, c1', c2', c3', c4', c5', c6', c7', ht, ha, hb, hc]), fun _ => ⟨hfine, by omega, by omega, hB, fun c hcm => by
            obtain ⟨i, hi, rfl⟩ := List.getElem_of_mem hcm
            have := range_find_none.1 q3 i hi
            simp only [calBad, List.getElem?_eq_getElem hi] at this
            split at this
            · cases this
            · omega⟩⟩
        · exact ⟨true, orun (fc := code8) rfl rfl rfl (by simp [code8, exec_loopK, c1', c2', c3', c4', c5', c6', c7', ht, ha, hb, hc]), by simp⟩
      · exact ⟨true, orun (fc := code8) rfl rfl rfl (by simp [code8, exec_loopK, c1', c2', c3', c4', c5', c6', c7', ht, ha, hb]), by simp⟩
    · exact ⟨true, orun (fc := code8) rfl rfl rfl (by simp [code8, exec_loopK, c1', c2', c3', c4', c5', c6', c7', ht, ha]), by simp⟩
/-! ### Different Ids -/
def sameId (l : List Entry) (i k : Nat) : Option Unit := match l[i]?, l[k]? with
  | some x, some y => if x.id = y.id then some () else none
  | _, _ => none
def dupE (l : List Entry) (i : Nat) : Option Unit := (List.range i).findSome? (sameId l i)
def diffB (l : List Entry) : Bool := ((List.range l.length).findSome? (dupE l)).isNone
theorem diffB_iff {l : List Entry} (h : diffB l = true) : ∀ i k (hi : i < l.length) (hk : k < i), l[i].id ≠ (l[k]'(by omega)).id := by
  intro i k hi hk he
  unfold diffB at h
  rw [Option.isNone_iff_eq_none, range_find_none] at h
  have h1 := h i hi
  unfold dupE at h1
  rw [range_find_none] at h1
  have h2 := h1 k hk
  have hkl : k < l.length := by omega
  simp [sameId, hi, hkl, he] at h2
end Go.Proofs.YtmhbkofbbkogeaaGreat
