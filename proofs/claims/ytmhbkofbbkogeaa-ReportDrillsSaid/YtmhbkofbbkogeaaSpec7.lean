/-
  What the functions that the laws reach compute: the sizes of books and rows; entries whose Ids are different.
-/
import Derived.Test.YtmhbkofbbkogeaaSpec6
import Derived.Test.YtmhbkofbbkogeaaSpec3
namespace Go.Proofs.Ytmhbkofbbkogeaa
open Go.VM
variable {X : Orc}
/-! ### Rows -/
def rowBig (l : List Row) (i : Nat) : Option Unit := match l[i]? with
  | some f => if 20 < f.roots.length ∨ 200 < f.name.length then some () else none
  | none => none
theorem l8 (l : List Row) (h : l.length ≤ 100) : loopK (O X) [0, 3] body8_1 [(0, .l (encR l)), (3, .i .i64 0)] = some (optE (fun (_ : Unit) => (.r, [(2, .b true)])) (.e 0, []) ((List.range l.length).findSome? (rowBig l))) := by
  have := loopK_code (o := O X) (kin := [0, 3]) (c := body8_1) (fun i => [(0, .l (encR l)), (3, .i .i64 i)]) l.length (rowBig l) (fun (_ : Unit) => (.r, [(2, .b true)])) (.e 0, []) (by simp) (by simp) (fun i hi => by
    have hw := wrap_i64 (i + 1) (by omega)
    have hn : (20 : Int) < (l[i].roots.length : Int) ↔ 20 < l[i].roots.length := by omega
    have hm : (200 : Int) < (l[i].name.length : Int) ↔ 200 < l[i].name.length := by omega
    by_cases c1 : 20 < l[i].roots.length
    · simp [body8_1, hi, hn, c1, rowBig]
    · by_cases c2 : 200 < l[i].name.length <;> simp [body8_1, hi, hn, hm, hw, c1, c2, rowBig]) (by simp [body8_1]) (by simp)
  exact this
theorem e8 (l : List Row) : ∃ t, O X 8 [.l (encR l)] = some (.b t) ∧ (t = false → Rows l ∧ l.length ≤ 100) := by
  by_cases c1 : 100 < l.length
  · have c1' : (100 : Int) < (l.length : Int) := by omega
    exact ⟨true, orun (fc := code8) rfl rfl rfl (by simp [code8, c1']), by simp⟩
  have c1' : ¬ (100 : Int) < (l.length : Int) := by omega
  have hl := l8 (X := X) l (by omega)
  cases q : (List.range l.length).findSome? (rowBig l) <;> rw [q] at hl <;> simp at hl
  · refine ⟨false, orun (fc := code8) rfl rfl rfl (by simp [code8, exec_loopK, c1', hl]), fun _ => ⟨?_, by omega⟩⟩
    rw [range_find_none] at q
    have key : ∀ r ∈ l, r.roots.length ≤ 20 ∧ r.name.length ≤ 200 := by
      intro r hr
      obtain ⟨i, hi, rfl⟩ := List.getElem_of_mem hr
      have := q i hi
      simp only [rowBig, List.getElem?_eq_getElem hi] at this
      split at this
      · cases this
      · omega
    refine ⟨fun r hr => ?_, fun r hr => ?_⟩
    · have := (key r hr).1; omega
    · have := (key r hr).2; unfold maxLen; omega
  · exact ⟨true, orun (fc := code8) rfl rfl rfl (by simp [code8, exec_loopK, c1', hl]), by simp⟩
/-! ### Books -/
structure Big (X : Orc) (b : Books) : Prop where
  curs : b.currencies.length ≤ 20
  cals : b.calendars.length ≤ 10
  chart : b.chart.length ≤ 60
  prods : b.products.length ≤ 20
  accs : b.accounts.length ≤ 40
  jour : b.journal.length ≤ 150
  okP : ∀ p ∈ b.products, ∃ t, O X 24 [p.v] = some (.b t)
noncomputable def prodBad (X : Orc) (l : List Product) (i : Nat) : Option Unit := match l[i]? with
  | some p => if gB (O X 24 [p.v]) = true then some () else none
  | none => none
noncomputable def entBad (X : Orc) (l : List Entry) (i : Nat) : Option Unit := match l[i]? with
  | some p => if gB (O X 25 [p.v]) = true then some () else none
  | none => none
def calBad (l : List Calendar) (i : Nat) : Option Unit := match l[i]? with
  | some p => if 400 < p.holidays.length ∨ 20 < p.weekend.length then some () else none
  | none => none
set_option maxHeartbeats 4000000 in
theorem l7a (b : Books) (h : Big X b) : loopK (O X) [1, 3] body7_1 [(1, .bx b.cells), (3, .i .i64 0)] = some (optE (fun (_ : Unit) => (.r, [(2, .b true)])) (.e 0, [(1, .bx b.cells)]) ((List.range b.products.length).findSome? (prodBad X b.products))) := by
  have hp := h.prods
  have := loopK_code (o := O X) (kin := [1, 3]) (c := body7_1) (fun i => [(1, .bx b.cells), (3, .i .i64 i)]) b.products.length (prodBad X b.products) (fun (_ : Unit) => (.r, [(2, .b true)])) (.e 0, [(1, .bx b.cells)]) (by simp) (by simp) (fun i hi => by
    have hw := wrap_i64 (i + 1) (by omega)
    have h1 := gB_eq (h.okP _ (List.getElem_mem hi))
    have hpb : prodBad X b.products i = if gB (O X 24 [b.products[i].v]) = true then some () else none := by simp [prodBad, hi]
    rw [hpb]
    generalize gB (O X 24 [b.products[i].v]) = t1 at h1 ⊢
    cases t1 <;> simp [body7_1, hi, hw, h1]) (by simp [body7_1]) (by simp)
  exact this
theorem l7b (b : Books) (h : Big X b) : loopK (O X) [1, 4] body7_2 [(1, .bx b.cells), (4, .i .i64 0)] = some (optE (fun (_ : Unit) => (.r, [(2, .b true)])) (.e 2, [(1, .bx b.cells)]) ((List.range b.journal.length).findSome? (entBad X b.journal))) := by
  have hp := h.jour
  have := loopK_code (o := O X) (kin := [1, 4]) (c := body7_2) (fun i => [(1, .bx b.cells), (4, .i .i64 i)]) b.journal.length (entBad X b.journal) (fun (_ : Unit) => (.r, [(2, .b true)])) (.e 2, [(1, .bx b.cells)]) (by simp) (by simp) (fun i hi => by
    have hw := wrap_i64 (i + 1) (by omega)
    obtain ⟨t, h1, _⟩ := e25 (X := X) b.journal[i]
    have hpb : entBad X b.journal i = if t = true then some () else none := by simp [entBad, hi, h1]
    rw [hpb]
    cases t <;> simp [body7_2, hi, hw, h1]) (by simp [body7_2]) (by simp)
  exact this
theorem l7c (b : Books) (h : Big X b) : loopK (O X) [1, 5] body7_3 [(1, .bx b.cells), (5, .i .i64 0)] = some (optE (fun (_ : Unit) => (.r, [(2, .b true)])) (.e 4, []) ((List.range b.calendars.length).findSome? (calBad b.calendars))) := by
  have hp := h.cals
  have := loopK_code (o := O X) (kin := [1, 5]) (c := body7_3) (fun i => [(1, .bx b.cells), (5, .i .i64 i)]) b.calendars.length (calBad b.calendars) (fun (_ : Unit) => (.r, [(2, .b true)])) (.e 4, []) (by simp) (by simp) (fun i hi => by
    have hw := wrap_i64 (i + 1) (by omega)
    have hn : (400 : Int) < (b.calendars[i].holidays.length : Int) ↔ 400 < b.calendars[i].holidays.length := by omega
    have hm : (20 : Int) < (b.calendars[i].weekend.length : Int) ↔ 20 < b.calendars[i].weekend.length := by omega
    by_cases c1 : 400 < b.calendars[i].holidays.length
    · simp [body7_3, hi, hn, c1, calBad]
    · by_cases c2 : 20 < b.calendars[i].weekend.length <;> simp [body7_3, hi, hn, hm, hw, c1, c2, calBad]) (by simp [body7_3]) (by simp)
  exact this
set_option maxHeartbeats 8000000 in
theorem e7 (b : Books) (hf : ∀ p ∈ b.products, (∀ f ∈ p.fees, f.okX) ∧ ∀ f ∈ p.rules, f.okX) : ∃ t, O X 7 [b.v] = some (.b t) ∧ (t = false → Fine b ∧ b.currencies.length ≤ 20 ∧ b.journal.length ≤ 150) := by
  by_cases c1 : 20 < b.currencies.length
  · have c1' : (20 : Int) < (b.currencies.length : Int) := by omega
    exact ⟨true, orun (fc := code7) rfl rfl rfl (by simp [code7, c1']), by simp⟩
  have c1' : ¬ (20 : Int) < (b.currencies.length : Int) := by omega
  by_cases c2 : 10 < b.calendars.length
  · have c2' : (10 : Int) < (b.calendars.length : Int) := by omega
    exact ⟨true, orun (fc := code7) rfl rfl rfl (by simp [code7, c1', c2']), by simp⟩
  have c2' : ¬ (10 : Int) < (b.calendars.length : Int) := by omega
  by_cases c3 : 60 < b.chart.length
  · have c3' : (60 : Int) < (b.chart.length : Int) := by omega
    exact ⟨true, orun (fc := code7) rfl rfl rfl (by simp [code7, c1', c2', c3']), by simp⟩
  have c3' : ¬ (60 : Int) < (b.chart.length : Int) := by omega
  by_cases c4 : 20 < b.products.length
  · have c4' : (20 : Int) < (b.products.length : Int) := by omega
    exact ⟨true, orun (fc := code7) rfl rfl rfl (by simp [code7, c1', c2', c3', c4']), by simp⟩
  have c4' : ¬ (20 : Int) < (b.products.length : Int) := by omega
  by_cases c5 : 40 < b.accounts.length
  · have c5' : (40 : Int) < (b.accounts.length : Int) := by omega
    exact ⟨true, orun (fc := code7) rfl rfl rfl (by simp [code7, c1', c2', c3', c4', c5']), by simp⟩
  have c5' : ¬ (40 : Int) < (b.accounts.length : Int) := by omega
  by_cases c6 : 150 < b.journal.length
  · have c6' : (150 : Int) < (b.journal.length : Int) := by omega
    exact ⟨true, orun (fc := code7) rfl rfl rfl (by simp [code7, c1', c2', c3', c4', c5', c6']), by simp⟩
  have c6' : ¬ (150 : Int) < (b.journal.length : Int) := by omega
  obtain ⟨t, ht⟩ := e23 (X := X) b.holds
  cases t with
  | true => exact ⟨true, orun (fc := code7) rfl rfl rfl (by simp [code7, c1', c2', c3', c4', c5', c6', ht]), by simp⟩
  | false =>
    by_cases c7 : 100 < b.blocks.length
    · have c7' : (100 : Int) < (b.blocks.length : Int) := by omega
      exact ⟨true, orun (fc := code7) rfl rfl rfl (by simp [code7, c1', c2', c3', c4', c5', c6', ht, c7']), by simp⟩
    have c7' : ¬ (100 : Int) < (b.blocks.length : Int) := by omega
    have hB : Big X b := ⟨by omega, by omega, by omega, by omega, by omega, by omega, fun p hp => e24 p (hf p hp).1 (hf p hp).2⟩
    have ha := l7a b hB
    have hb := l7b b hB
    have hc := l7c b hB
    cases q1 : (List.range b.products.length).findSome? (prodBad X b.products) <;> rw [q1] at ha <;> simp at ha
    · cases q2 : (List.range b.journal.length).findSome? (entBad X b.journal) <;> rw [q2] at hb <;> simp at hb
      · have hfine : Fine b := ⟨by omega, by omega, by omega, by omega, fun e he => by
          obtain ⟨i, hi, rfl⟩ := List.getElem_of_mem he
          have := range_find_none.1 q2 i hi
          obtain ⟨t, h1, h2⟩ := e25 (X := X) b.journal[i]
          have hpb : entBad X b.journal i = if t = true then some () else none := by simp [entBad, hi, h1]
          rw [hpb] at this
          cases t with
          | false => have := h2 rfl; omega
          | true => cases this⟩
        cases q3 : (List.range b.calendars.length).findSome? (calBad b.calendars) <;> rw [q3] at hc <;> simp at hc
        · exact ⟨false, orun (fc := code7) rfl rfl rfl (by simp [code7, exec_loopK, c1', c2', c3', c4', c5', c6', c7', ht, ha, hb, hc]), fun _ => ⟨hfine, by omega, by omega⟩⟩
        · exact ⟨true, orun (fc := code7) rfl rfl rfl (by simp [code7, exec_loopK, c1', c2', c3', c4', c5', c6', c7', ht, ha, hb, hc]), by simp⟩
      · exact ⟨true, orun (fc := code7) rfl rfl rfl (by simp [code7, exec_loopK, c1', c2', c3', c4', c5', c6', c7', ht, ha, hb]), by simp⟩
    · exact ⟨true, orun (fc := code7) rfl rfl rfl (by simp [code7, exec_loopK, c1', c2', c3', c4', c5', c6', c7', ht, ha]), by simp⟩
/-! ### Different Ids -/
def sameId (l : List Entry) (i k : Nat) : Option Unit := match l[i]?, l[k]? with
  | some x, some y => if x.id = y.id then some () else none
  | _, _ => none
theorem l22i (l : List Entry) (i : Nat) (hi : i < l.length) (h : l.length ≤ 1000) : loopK (O X) [0, 3, 4] body22_1 [(0, .l (encE l)), (3, .i .i64 i), (4, .i .i64 0)] = some (optE (fun (_ : Unit) => (.r, [(2, .b false)])) (.e 2, [(0, .l (encE l)), (3, .i .i64 i)]) ((List.range i).findSome? (sameId l i))) := by
  have := loopK_code (o := O X) (kin := [0, 3, 4]) (c := body22_1) (fun k => [(0, .l (encE l)), (3, .i .i64 i), (4, .i .i64 k)]) i (sameId l i) (fun (_ : Unit) => (.r, [(2, .b false)])) (.e 2, [(0, .l (encE l)), (3, .i .i64 i)]) (by simp) (by simp) (fun k hk => by
    have hw := wrap_i64 (k + 1) (by omega)
    have hkl : k < l.length := by omega
    have hkk : (k : Int) < (i : Int) := by omega
    by_cases hc : l[i].id = l[k].id <;> simp [body22_1, hi, hkl, hkk, hw, hc, sameId]) (by simp [body22_1]) (by simp)
  exact this
def dupE (l : List Entry) (i : Nat) : Option Unit := (List.range i).findSome? (sameId l i)
theorem l22 (l : List Entry) (h : l.length ≤ 1000) : loopK (O X) [0, 3] body22_2 [(0, .l (encE l)), (3, .i .i64 0)] = some (optE (fun (_ : Unit) => (.r, [(2, .b false)])) (.e 0, []) ((List.range l.length).findSome? (dupE l))) := by
  have := loopK_code (o := O X) (kin := [0, 3]) (c := body22_2) (fun i => [(0, .l (encE l)), (3, .i .i64 i)]) l.length (dupE l) (fun (_ : Unit) => (.r, [(2, .b false)])) (.e 0, []) (by simp) (by simp) (fun i hi => by
    have hw := wrap_i64 (i + 1) (by omega)
    have hl := l22i (X := X) l i hi h
    unfold dupE
    cases q : (List.range i).findSome? (sameId l i) <;> rw [q] at hl <;> simp at hl <;> simp [body22_2, exec_loopK, hi, hw, hl]) (by simp [body22_2]) (by simp)
  exact this
def diffB (l : List Entry) : Bool := ((List.range l.length).findSome? (dupE l)).isNone
theorem e22 (l : List Entry) (h : l.length ≤ 1000) : O X 22 [.l (encE l)] = some (.b (diffB l)) := by
  refine orun (fc := code22) rfl rfl rfl ?_
  have hl := l22 (X := X) l h
  unfold diffB
  cases q : (List.range l.length).findSome? (dupE l) <;> rw [q] at hl <;> simp at hl <;> simp [code22, exec_loopK, hl]
theorem diffB_iff {l : List Entry} (h : diffB l = true) : ∀ i k (hi : i < l.length) (hk : k < i), l[i].id ≠ (l[k]'(by omega)).id := by
  intro i k hi hk he
  unfold diffB at h
  rw [Option.isNone_iff_eq_none, range_find_none] at h
  have h1 := h i hi
  unfold dupE at h1
  rw [range_find_none] at h1
  have h2 := h1 k hk
  have hkl : k < l.length := by omega
  simp [sameId, hi, hkl, he] at h2
end Go.Proofs.Ytmhbkofbbkogeaa
