/-
  What the functions that the laws reach compute: are the versions small?
-/
import Derived.Test.YtlmbgmobghmmmaaSpec2
namespace Go.Proofs.Ytlmbgmobghmmmaa
open Go.VM
theorem l9a (L : List V) (k : Nat) (p : Product) (h : p.fees.length ≤ 1000) : loopK O [0, 3, 4, 5] body9_1 [(0, .l L), (3, .i .i64 k), (4, .bx p.cells), (5, .i .i64 0)] = some (optE (fun (_ : Unit) => (.r, [(2, .b false)])) (.e 2, [(0, .l L), (3, .i .i64 k), (4, .bx p.cells)]) (anyBad feeBad p.fees)) := by
  have := loopK_code (o := O) (kin := [0, 3, 4, 5]) (c := body9_1) (fun i => [(0, .l L), (3, .i .i64 k), (4, .bx p.cells), (5, .i .i64 i)]) p.fees.length (atBad feeBad p.fees) (fun (_ : Unit) => (.r, [(2, .b false)])) (.e 2, [(0, .l L), (3, .i .i64 k), (4, .bx p.cells)]) (by simp) (by simp) (fun i hi => by
    have hw := wrap_i64 ((i : Int) + 1) (by omega)
    have ho : atBad feeBad p.fees i = if feeBad p.fees[i] = true then some () else none := by simp [atBad, hi]
    rw [ho]
    unfold feeBad
    by_cases h1 : 100 < p.fees[i].name.length
    · simp [body9_1, Product.rest, hi, hw, h1] <;> (intros; omega)
    by_cases h2 : 0 < p.fees[i].when.args.length
    · simp [body9_1, Product.rest, hi, h1, h2] <;> (intros; omega)
    by_cases h3 : 0 < p.fees[i].amount.args.length
    · simp [body9_1, Product.rest, hi, h1, h2, h3] <;> (intros; omega)
    by_cases h4 : 100 < p.fees[i].when.s.length
    · simp [body9_1, Product.rest, hi, hw, h1, h2, h3, h4] <;> (intros; omega)
    by_cases h5 : 100 < p.fees[i].amount.s.length <;> simp [body9_1, Product.rest, hi, hw, h1, h2, h3, h4, h5] <;> (intros; omega)) (by simp [body9_1, Product.rest]) (by simp)
  exact this
theorem l9b (L : List V) (k : Nat) (p : Product) (h : p.rules.length ≤ 1000) : loopK O [0, 3, 4, 6] body9_2 [(0, .l L), (3, .i .i64 k), (4, .bx p.cells), (6, .i .i64 0)] = some (optE (fun (_ : Unit) => (.r, [(2, .b false)])) (.e 4, [(0, .l L), (3, .i .i64 k)]) (anyBad ruleBad p.rules)) := by
  have := loopK_code (o := O) (kin := [0, 3, 4, 6]) (c := body9_2) (fun i => [(0, .l L), (3, .i .i64 k), (4, .bx p.cells), (6, .i .i64 i)]) p.rules.length (atBad ruleBad p.rules) (fun (_ : Unit) => (.r, [(2, .b false)])) (.e 4, [(0, .l L), (3, .i .i64 k)]) (by simp) (by simp) (fun i hi => by
    have hw := wrap_i64 ((i : Int) + 1) (by omega)
    have ho : atBad ruleBad p.rules i = if ruleBad p.rules[i] = true then some () else none := by simp [atBad, hi]
    rw [ho]
    unfold ruleBad
    by_cases h1 : 100 < p.rules[i].name.length
    · simp [body9_2, Product.rest, hi, hw, h1] <;> (intros; omega)
    by_cases h2 : 0 < p.rules[i].amount.args.length
    · simp [body9_2, Product.rest, hi, h1, h2] <;> (intros; omega)
    by_cases h4 : 100 < p.rules[i].amount.s.length <;> simp [body9_2, Product.rest, hi, hw, h1, h2, h4] <;> (intros; omega)) (by simp [body9_2, Product.rest]) (by simp)
  exact this
theorem l9c (l : List Product) (h : l.length ≤ 1000) : loopK O [0, 3] body9_3 [(0, .l (encL Product.v l)), (3, .i .i64 0)] = some (optE (fun (_ : Unit) => (.r, [(2, .b false)])) (.e 0, []) (anyBad prodBad l)) := by
  have := loopK_code (o := O) (kin := [0, 3]) (c := body9_3) (fun i => [(0, .l (encL Product.v l)), (3, .i .i64 i)]) l.length (atBad prodBad l) (fun (_ : Unit) => (.r, [(2, .b false)])) (.e 0, []) (by simp) (by simp) (fun i hi => by
    have hw := wrap_i64 ((i : Int) + 1) (by omega)
    have ho : atBad prodBad l i = if prodBad l[i] = true then some () else none := by simp [atBad, hi]
    rw [ho]
    have hL : (encL Product.v l)[i]? = some l[i].v := by simp [hi]
    generalize hp : l[i] = p at hL ⊢
    generalize encL Product.v l = L at hL ⊢
    obtain ⟨hLl, hLe⟩ := List.getElem?_eq_some_iff.1 hL
    have ha := l9a L i p
    have hb := l9b L i p
    unfold prodBad sizeBad
    by_cases h1 : 100 < p.name.length
    · have g1 : (100 : Int) < p.name.length := by omega
      simp [body9_3, Product.rest, hLe, hLl, h1, g1]
    have g1 : ¬ (100 : Int) < p.name.length := by omega
    by_cases h2 : 100 < p.currency.length
    · have g2 : (100 : Int) < p.currency.length := by omega
      simp [body9_3, Product.rest, hLe, hLl, h1, g1, h2, g2]
    have g2 : ¬ (100 : Int) < p.currency.length := by omega
    by_cases h3 : 100 < p.calendar.length
    · have g3 : (100 : Int) < p.calendar.length := by omega
      simp [body9_3, Product.rest, hLe, hLl, h1, g1, h2, g2, h3, g3]
    have g3 : ¬ (100 : Int) < p.calendar.length := by omega
    by_cases h4 : 20 < p.fees.length
    · have g4 : (20 : Int) < p.fees.length := by omega
      simp [body9_3, Product.rest, hLe, hLl, h1, g1, h2, g2, h3, g3, h4, g4]
    have g4 : ¬ (20 : Int) < p.fees.length := by omega
    by_cases h5 : 20 < p.rules.length
    · have g5 : (20 : Int) < p.rules.length := by omega
      simp [body9_3, Product.rest, hLe, hLl, h1, g1, h2, g2, h3, g3, h4, g4, h5, g5]
    have g5 : ¬ (20 : Int) < p.rules.length := by omega
    by_cases h6 : 20 < p.credit.tiers.length
    · have g6 : (20 : Int) < p.credit.tiers.length := by omega
      simp [body9_3, Product.rest, hLe, hLl, h1, g1, h2, g2, h3, g3, h4, g4, h5, g5, h6, g6]
    have g6 : ¬ (20 : Int) < p.credit.tiers.length := by omega
    by_cases h7 : 20 < p.debit.tiers.length
    · have g7 : (20 : Int) < p.debit.tiers.length := by omega
      simp [body9_3, Product.rest, hLe, hLl, h1, g1, h2, g2, h3, g3, h4, g4, h5, g5, h6, g6, h7, g7]
    have g7 : ¬ (20 : Int) < p.debit.tiers.length := by omega
    have ha := ha (by omega)
    have hb := hb (by omega)
    cases hfb : anyBad feeBad p.fees <;> rw [hfb] at ha
    · cases hrb : anyBad ruleBad p.rules <;> rw [hrb] at hb <;> simp [Product.cells, Product.rest] at ha hb <;> simp [body9_3, Product.rest, hLe, hLl, hw, h1, g1, h2, g2, h3, g3, h4, g4, h5, g5, h6, g6, h7, g7, exec_loopK, ha, hb]
    · simp [Product.cells, Product.rest] at ha
      simp [body9_3, Product.rest, hLe, hLl, h1, g1, h2, g2, h3, g3, h4, g4, h5, g5, h6, g6, h7, g7, exec_loopK, ha]) (by simp [body9_3]) (by simp)
  exact this
theorem e9 (l : List Product) (_h : l.length ≤ maxLen) : O 9 [.l (encL Product.v l)] = some (.b (lightB l)) := by
  refine orun (fc := code9) rfl rfl rfl ?_
  unfold lightB
  by_cases h1 : 100 < l.length
  · have : (100 : Int) < l.length := by omega
    simp [code9, h1, this]
  · have h1' : ¬ (100 : Int) < l.length := by omega
    have hl := l9c l (by omega)
    cases hb : anyBad prodBad l <;> rw [hb] at hl <;> simp [code9, h1, h1', exec_loopK, hl]
end Go.Proofs.Ytlmbgmobghmmmaa
