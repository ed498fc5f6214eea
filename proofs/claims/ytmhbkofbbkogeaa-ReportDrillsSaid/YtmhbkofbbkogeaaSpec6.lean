/-
  What the functions that the laws reach compute: the sizes that the laws ask for.
-/
import Derived.Test.YtmhbkofbbkogeaaSpec2
namespace Go.Proofs.Ytmhbkofbbkogeaa
open Go.VM
variable {X : Orc}
/-- The answer of a call that answers yes or no. -/
def gB : Option V → Bool
  | some (.b t) => t
  | _ => false
theorem gB_eq {o : Option V} (h : ∃ t, o = some (.b t)) : o = some (.b (gB o)) := by
  obtain ⟨t, rfl⟩ := h; rfl
@[simp] theorem gB_b (t : Bool) : gB (some (.b t)) = t := rfl
/-! ### Expressions -/
abbrev E47 (m : Int) (op k : Int) (s : List UInt8) (args : List V) (n : Int) (i : Nat) : Env := [(1, .i .i64 m), (2, .bx [.i .i64 op, .i .i64 k, .s s, .l args]), (5, .i .i64 n), (6, .i .i64 i)]
theorem l47 (m : Nat) (hm : m ≤ 1000) (op k : Int) (s : List UInt8) (args : List V) (hl : args.length ≤ maxLen)
    (hc : 0 < m → ∀ y ∈ args, y.cells.length = 4 ∧ ∀ q : Nat, q < m → ∃ z : Int, O X 47 [.a y.cells, .i .i64 q] = some (.i .i64 z) ∧ 1 ≤ z ∧ z ≤ q + 1) :
    ∀ (r i : Nat) (n : Int), i + r = args.length → 1 ≤ n → n ≤ m + 1 → ∃ z : Int, loopK (O X) [1, 2, 5, 6] body47_1 (E47 m op k s args n i) = some (.e 0, [(5, .i .i64 z)]) ∧ 1 ≤ z ∧ z ≤ m + 1
  | 0, i, n, hi, h1, h2 => by
    have hi' : ¬ (i : Int) < (args.length : Int) := by omega
    refine ⟨n, loopK_end (by simp) ?_ (by simp), h1, h2⟩
    simp [body47_1, hi']
  | r + 1, i, n, hi, h1, h2 => by
    have hi' : (i : Int) < (args.length : Int) := by omega
    have hil : i < args.length := by omega
    by_cases hn : n ≤ m
    · obtain ⟨h4, hq⟩ := hc (by omega) _ (List.getElem_mem hil)
      obtain ⟨z, hz, hz1, hz2⟩ := hq ((m : Int) - n).toNat (by omega)
      have hq' : ((((m : Int) - n).toNat : Nat) : Int) = (m : Int) - n := by omega
      rw [hq'] at hz hz2
      obtain ⟨y, hy, hy1, hy2⟩ := l47 m hm op k s args hl hc r (i + 1) (n + z) (by omega) (by omega) (by omega)
      refine ⟨y, ?_, hy1, hy2⟩
      rw [← hy]
      refine loopK_go (by simp) (by simp) ?_
      have hw1 := wrap_i64 ((m : Int) - n) (by omega)
      have hw2 := wrap_i64 (n + z) (by omega)
      have hw3 := wrap_i64 ((i : Int) + 1) (by unfold maxLen at hl; omega)
      simp [body47_1, hil, hn, h4, hw1, hz, hw2, hw3]
    · refine ⟨n, loopK_end (by simp) ?_ (by simp), h1, h2⟩
      simp [body47_1, hi', hn]
theorem exT_le : ∀ {n m : Nat} {ys : List V}, n ≤ m → exT m ys → exT n ys
  | 0, _, _, _, _ => trivial
  | n + 1, 0, _, hm, _ => by omega
  | n + 1, m + 1, _, hm, ⟨op, k, s, args, h1, h2, h3⟩ => ⟨op, k, s, args, h1, h2, fun y hy => by
    obtain ⟨zs, h4, h5⟩ := h3 y hy
    exact ⟨zs, h4, exT_le (by omega) h5⟩⟩
theorem e47 : ∀ (m : Nat), m ≤ 1000 → ∀ ys : List V, exT (m + 1) ys → ∃ z : Int, O X 47 [.a ys, .i .i64 m] = some (.i .i64 z) ∧ 1 ≤ z ∧ z ≤ m + 1 := by
  intro m
  induction m using Nat.strongRecOn with
  | _ m ih =>
    intro hm ys hx
    obtain ⟨op, k, s, args, rfl, hl, ha⟩ := hx
    obtain ⟨z, hz, hz1, hz2⟩ := l47 (X := X) m hm op k s args hl (fun h0 y hy => by
      obtain ⟨zs, rfl, hzs⟩ := ha y hy
      refine ⟨?_, fun q hq => ih q hq (by omega) zs (exT_le (by omega) hzs)⟩
      obtain ⟨_, _, _, _, rfl, _⟩ := exT_le (show 1 ≤ m from h0) hzs
      rfl) args.length 0 1 (by omega) (by omega) (by omega)
    refine ⟨z, orun (fc := code47) rfl rfl rfl ?_, hz1, hz2⟩
    simp [E47] at hz
    simp [code47, exec_loopK, hz]
theorem e41 (e : Expr) (h : exT 102 e.cells) : ∃ t, O X 41 [e.v, .i .i64 100] = some (.b t) := by
  obtain ⟨z, hz, _⟩ := e47 (X := X) 100 (by omega) e.cells (exT_le (by omega) h)
  refine ⟨decide (100 < z), orun (fc := code41) rfl rfl rfl ?_⟩
  simp at hz
  simp [code41, hz]
/-! ### Products -/
noncomputable def feeBad (X : Orc) (l : List Fee) (i : Nat) : Option Unit := match l[i]? with
  | some f => if 100 < f.name.length ∨ gB (O X 41 [f.when.v, .i .i64 100]) = true ∨ gB (O X 41 [f.amount.v, .i .i64 100]) = true then some () else none
  | none => none
noncomputable def ruleBad (X : Orc) (l : List Rule) (i : Nat) : Option Unit := match l[i]? with
  | some f => if 100 < f.name.length ∨ gB (O X 41 [f.amount.v, .i .i64 100]) = true then some () else none
  | none => none
def Fee.okX (f : Fee) : Prop := exT 102 f.when.cells ∧ exT 102 f.amount.cells
def Rule.okX (f : Rule) : Prop := exT 102 f.amount.cells
theorem l24a (p : Product) (h : p.fees.length ≤ 10) (hf : ∀ f ∈ p.fees, f.okX) : loopK (O X) [1, 3] body24_1 [(1, .bx p.cells), (3, .i .i64 0)] = some (optE (fun (_ : Unit) => (.r, [(2, .b true)])) (.e 0, [(1, .bx p.cells)]) ((List.range p.fees.length).findSome? (feeBad X p.fees))) := by
  have := loopK_code (o := O X) (kin := [1, 3]) (c := body24_1) (fun i => [(1, .bx p.cells), (3, .i .i64 i)]) p.fees.length (feeBad X p.fees) (fun (_ : Unit) => (.r, [(2, .b true)])) (.e 0, [(1, .bx p.cells)]) (by simp) (by simp) (fun i hi => by
    have hw := wrap_i64 (i + 1) (by omega)
    have hx := hf _ (List.getElem_mem hi)
    have h1 := gB_eq (e41 (X := X) p.fees[i].when hx.1)
    have h2 := gB_eq (e41 (X := X) p.fees[i].amount hx.2)
    have hn : (100 : Int) < (p.fees[i].name.length : Int) ↔ 100 < p.fees[i].name.length := by omega
    generalize gB (O X 41 [p.fees[i].when.v, .i .i64 100]) = t1 at h1
    generalize gB (O X 41 [p.fees[i].amount.v, .i .i64 100]) = t2 at h2
    by_cases c1 : 100 < p.fees[i].name.length
    · simp [body24_1, hi, hn, c1, feeBad]
    · cases t1
      · cases t2 <;> simp [body24_1, hi, hn, hw, c1, h1, h2, feeBad]
      · simp [body24_1, hi, hn, c1, h1, feeBad]) (by simp [body24_1]) (by simp)
  exact this
theorem l24b (p : Product) (h : p.rules.length ≤ 10) (hf : ∀ f ∈ p.rules, f.okX) : loopK (O X) [1, 4] body24_2 [(1, .bx p.cells), (4, .i .i64 0)] = some (optE (fun (_ : Unit) => (.r, [(2, .b true)])) (.e 2, []) ((List.range p.rules.length).findSome? (ruleBad X p.rules))) := by
  have := loopK_code (o := O X) (kin := [1, 4]) (c := body24_2) (fun i => [(1, .bx p.cells), (4, .i .i64 i)]) p.rules.length (ruleBad X p.rules) (fun (_ : Unit) => (.r, [(2, .b true)])) (.e 2, []) (by simp) (by simp) (fun i hi => by
    have hw := wrap_i64 (i + 1) (by omega)
    have hx := hf _ (List.getElem_mem hi)
    have h2 := gB_eq (e41 (X := X) p.rules[i].amount hx)
    have hn : (100 : Int) < (p.rules[i].name.length : Int) ↔ 100 < p.rules[i].name.length := by omega
    generalize gB (O X 41 [p.rules[i].amount.v, .i .i64 100]) = t2 at h2
    by_cases c1 : 100 < p.rules[i].name.length
    · simp [body24_2, hi, hn, c1, ruleBad]
    · cases t2 <;> simp [body24_2, hi, hn, hw, c1, h2, ruleBad]) (by simp [body24_2]) (by simp)
  exact this
set_option maxHeartbeats 4000000 in
theorem e24 (p : Product) (hf : ∀ f ∈ p.fees, f.okX) (hr : ∀ f ∈ p.rules, f.okX) : ∃ t, O X 24 [p.v] = some (.b t) := by
  by_cases c1 : 100 < p.name.length
  · have c1' : (100 : Int) < (p.name.length : Int) := by omega
    exact ⟨true, orun (fc := code24) rfl rfl rfl (by simp [code24, c1'])⟩
  have c1' : ¬ (100 : Int) < (p.name.length : Int) := by omega
  by_cases c2 : 100 < p.currency.length
  · have c2' : (100 : Int) < (p.currency.length : Int) := by omega
    exact ⟨true, orun (fc := code24) rfl rfl rfl (by simp [code24, c1', c2'])⟩
  have c2' : ¬ (100 : Int) < (p.currency.length : Int) := by omega
  by_cases c3 : 100 < p.calendar.length
  · have c3' : (100 : Int) < (p.calendar.length : Int) := by omega
    exact ⟨true, orun (fc := code24) rfl rfl rfl (by simp [code24, c1', c2', c3'])⟩
  have c3' : ¬ (100 : Int) < (p.calendar.length : Int) := by omega
  by_cases c4 : 20 < p.credit.tiers.length
  · have c4' : (20 : Int) < (p.credit.tiers.length : Int) := by omega
    exact ⟨true, orun (fc := code24) rfl rfl rfl (by simp [code24, c1', c2', c3', c4'])⟩
  have c4' : ¬ (20 : Int) < (p.credit.tiers.length : Int) := by omega
  by_cases c5 : 20 < p.debit.tiers.length
  · have c5' : (20 : Int) < (p.debit.tiers.length : Int) := by omega
    exact ⟨true, orun (fc := code24) rfl rfl rfl (by simp [code24, c1', c2', c3', c4', c5'])⟩
  have c5' : ¬ (20 : Int) < (p.debit.tiers.length : Int) := by omega
  by_cases c6 : 10 < p.fees.length
  · have c6' : (10 : Int) < (p.fees.length : Int) := by omega
    exact ⟨true, orun (fc := code24) rfl rfl rfl (by simp [code24, c1', c2', c3', c4', c5', c6'])⟩
  have c6' : ¬ (10 : Int) < (p.fees.length : Int) := by omega
  by_cases c7 : 10 < p.rules.length
  · have c7' : (10 : Int) < (p.rules.length : Int) := by omega
    exact ⟨true, orun (fc := code24) rfl rfl rfl (by simp [code24, c1', c2', c3', c4', c5', c6', c7'])⟩
  have c7' : ¬ (10 : Int) < (p.rules.length : Int) := by omega
  have ha := l24a (X := X) p (by omega) hf
  have hb := l24b (X := X) p (by omega) hr
  cases q1 : (List.range p.fees.length).findSome? (feeBad X p.fees) <;> rw [q1] at ha <;> simp at ha
  · cases q2 : (List.range p.rules.length).findSome? (ruleBad X p.rules) <;> rw [q2] at hb <;> simp at hb
    · exact ⟨false, orun (fc := code24) rfl rfl rfl (by simp [code24, exec_loopK, c1', c2', c3', c4', c5', c6', c7', ha, hb])⟩
    · exact ⟨true, orun (fc := code24) rfl rfl rfl (by simp [code24, exec_loopK, c1', c2', c3', c4', c5', c6', c7', ha, hb])⟩
  · exact ⟨true, orun (fc := code24) rfl rfl rfl (by simp [code24, exec_loopK, c1', c2', c3', c4', c5', c6', c7', ha])⟩
/-! ### Holds, entries -/
abbrev encH (l : List Hold) : List V := encL Hold.v l
def holdBad (l : List Hold) (i : Nat) : Option Unit := match l[i]? with
  | some f => if 200 < f.key.length then some () else none
  | none => none
theorem l23 (l : List Hold) (h : l.length ≤ 100) : loopK (O X) [0, 3] body23_1 [(0, .l (encH l)), (3, .i .i64 0)] = some (optE (fun (_ : Unit) => (.r, [(2, .b true)])) (.e 0, []) ((List.range l.length).findSome? (holdBad l))) := by
  have := loopK_code (o := O X) (kin := [0, 3]) (c := body23_1) (fun i => [(0, .l (encH l)), (3, .i .i64 i)]) l.length (holdBad l) (fun (_ : Unit) => (.r, [(2, .b true)])) (.e 0, []) (by simp) (by simp) (fun i hi => by
    have hw := wrap_i64 (i + 1) (by omega)
    have hn : (200 : Int) < (l[i].key.length : Int) ↔ 200 < l[i].key.length := by omega
    by_cases c1 : 200 < l[i].key.length <;> simp [body23_1, hi, hn, hw, c1, holdBad]) (by simp [body23_1]) (by simp)
  exact this
theorem e23 (l : List Hold) : ∃ t, O X 23 [.l (encH l)] = some (.b t) := by
  by_cases c1 : 100 < l.length
  · have c1' : (100 : Int) < (l.length : Int) := by omega
    exact ⟨true, orun (fc := code23) rfl rfl rfl (by simp [code23, c1'])⟩
  have c1' : ¬ (100 : Int) < (l.length : Int) := by omega
  have hl := l23 (X := X) l (by omega)
  cases q : (List.range l.length).findSome? (holdBad l) <;> rw [q] at hl <;> simp at hl
  · exact ⟨false, orun (fc := code23) rfl rfl rfl (by simp [code23, exec_loopK, c1', hl])⟩
  · exact ⟨true, orun (fc := code23) rfl rfl rfl (by simp [code23, exec_loopK, c1', hl])⟩
def legBad (l : List Leg) (i : Nat) : Option Unit := match l[i]? with
  | some f => if 100 < f.currency.length then some () else none
  | none => none
theorem l25 (e : Entry) (h : e.legs.length ≤ 30) : loopK (O X) [1, 3] body25_1 [(1, .bx e.cells), (3, .i .i64 0)] = some (optE (fun (_ : Unit) => (.r, [(2, .b true)])) (.e 0, []) ((List.range e.legs.length).findSome? (legBad e.legs))) := by
  have := loopK_code (o := O X) (kin := [1, 3]) (c := body25_1) (fun i => [(1, .bx e.cells), (3, .i .i64 i)]) e.legs.length (legBad e.legs) (fun (_ : Unit) => (.r, [(2, .b true)])) (.e 0, []) (by simp) (by simp) (fun i hi => by
    have hw := wrap_i64 (i + 1) (by omega)
    have hn : (100 : Int) < (e.legs[i].currency.length : Int) ↔ 100 < e.legs[i].currency.length := by omega
    by_cases c1 : 100 < e.legs[i].currency.length <;> simp [body25_1, hi, hn, hw, c1, legBad]) (by simp [body25_1]) (by simp)
  exact this
theorem e25 (e : Entry) : ∃ t, O X 25 [e.v] = some (.b t) ∧ (t = false → e.legs.length ≤ 30) := by
  by_cases c1 : 30 < e.legs.length
  · have c1' : (30 : Int) < (e.legs.length : Int) := by omega
    exact ⟨true, orun (fc := code25) rfl rfl rfl (by simp [code25, c1']), by simp⟩
  have c1' : ¬ (30 : Int) < (e.legs.length : Int) := by omega
  have hle : e.legs.length ≤ 30 := by omega
  by_cases c2 : 1000 < e.key.length
  · have c2' : (1000 : Int) < (e.key.length : Int) := by omega
    exact ⟨true, orun (fc := code25) rfl rfl rfl (by simp [code25, c1', c2']), fun _ => hle⟩
  have c2' : ¬ (1000 : Int) < (e.key.length : Int) := by omega
  by_cases c3 : 1000 < e.text.length
  · have c3' : (1000 : Int) < (e.text.length : Int) := by omega
    exact ⟨true, orun (fc := code25) rfl rfl rfl (by simp [code25, c1', c2', c3']), fun _ => hle⟩
  have c3' : ¬ (1000 : Int) < (e.text.length : Int) := by omega
  have hl := l25 (X := X) e hle
  cases q : (List.range e.legs.length).findSome? (legBad e.legs) <;> rw [q] at hl <;> simp at hl
  · exact ⟨false, orun (fc := code25) rfl rfl rfl (by simp [code25, exec_loopK, c1', c2', c3', hl]), fun _ => hle⟩
  · exact ⟨true, orun (fc := code25) rfl rfl rfl (by simp [code25, exec_loopK, c1', c2', c3', hl]), fun _ => hle⟩
end Go.Proofs.Ytmhbkofbbkogeaa
