/-
  What the functions that the laws reach compute: are two versions equal?
-/
import Derived.Test.YtlmbgmobghmmmaaSpec3
import Derived.Test.YtlmbgmobghmmmaaSpec4
namespace Go.Proofs.Ytlmbgmobghmmmaa
open Go.VM
/-- Two lists, element by element. -/
def pairB {α : Type} (q : α → α → Bool) (a b : List α) (i : Nat) : Option Unit := match a[i]?, b[i]? with
  | some x, some y => if q x y = true then none else some ()
  | _, _ => none
def pairS {α : Type} (q : α → α → Bool) (a b : List α) : Option Unit := (List.range a.length).findSome? (pairB q a b)
def sameL {α : Type} (q : α → α → Bool) (a b : List α) : Bool := decide (a.length = b.length) && (pairS q a b).isNone
theorem pairB_eq {α : Type} (q : α → α → Bool) {a b : List α} (h : a.length = b.length) {i : Nat} (hi : i < a.length) : pairB q a b i = if q a[i] (b[i]'(by omega)) = true then none else some () := by
  have hj : i < b.length := by omega
  simp [pairB, hi, hj]
theorem sameL_refl {α : Type} {q : α → α → Bool} (a : List α) (h : ∀ x ∈ a, q x x = true) : sameL q a a = true := by
  unfold sameL pairS
  have : (List.range a.length).findSome? (pairB q a a) = none := range_find_none.2 fun i hi => by
    rw [pairB_eq q rfl hi, if_pos (h _ (List.getElem_mem hi))]
  simp [this]
def sameE (x y : Expr) : Bool := decide (x.op = y.op) && (decide (x.n = y.n) && decide (x.s = y.s))
def sameT (x y : Tier) : Bool := decide (x.from' = y.from') && decide (x.ppm = y.ppm)
def sameI (x y : Interest) : Bool := (decide (x.marginal = y.marginal) && (decide (x.basis = y.basis) && (decide (x.mode' = y.mode') && decide (x.keep = y.keep)))) && sameL sameT x.tiers y.tiers
def sameF (x y : Fee) : Bool := decide (x.name = y.name) && (decide (x.event = y.event) && (sameE x.when y.when && sameE x.amount y.amount))
def sameR (x y : Rule) : Bool := decide (x.name = y.name) && (decide (x.window = y.window) && sameE x.amount y.amount)
def sameH (p q : Product) : Bool := decide (p.name = q.name) && (decide (p.currency = q.currency) && (decide (p.calendar = q.calendar) && (decide (p.from' = q.from') && (decide (p.every = q.every) && (decide (p.overdraft = q.overdraft) && decide (p.taxPpm = q.taxPpm))))))
def sameP (p q : Product) : Bool := sameH p q && (sameI p.credit q.credit && (sameI p.debit q.debit && (sameL sameF p.fees q.fees && sameL sameR p.rules q.rules)))
theorem sameE_refl (x : Expr) : sameE x x = true := by simp [sameE]
theorem sameP_refl (p : Product) : sameP p p = true := by
  have h1 := sameL_refl (q := sameT) p.credit.tiers (fun x _ => by simp [sameT])
  have h2 := sameL_refl (q := sameT) p.debit.tiers (fun x _ => by simp [sameT])
  have h3 := sameL_refl (q := sameF) p.fees (fun x _ => by simp [sameF, sameE_refl])
  have h4 := sameL_refl (q := sameR) p.rules (fun x _ => by simp [sameR, sameE_refl])
  simp [sameP, sameH, sameI, h1, h2, h3, h4]
/-- No expression has operands, and the lists are short. -/
def feeOk (f : Fee) : Prop := f.when.args = [] ∧ f.amount.args = []
def ruleOk (r : Rule) : Prop := r.amount.args = []
def Lite (p : Product) : Prop := p.credit.tiers.length ≤ 1000 ∧ p.debit.tiers.length ≤ 1000 ∧ p.fees.length ≤ 1000 ∧ p.rules.length ≤ 1000 ∧ (∀ f ∈ p.fees, feeOk f) ∧ ∀ r ∈ p.rules, ruleOk r
theorem lite_zero : Lite zeroP := by
  refine ⟨by decide, by decide, by decide, by decide, fun f h => ?_, fun f h => ?_⟩ <;> cases h
theorem lite_of {l : List Product} (h : lightB l = true) {p : Product} (hp : p ∈ l) : Lite p := by
  unfold lightB at h
  simp only [Bool.and_eq_true, Option.isNone_iff_eq_none] at h
  have hb := anyBad_none.1 h.2 p hp
  unfold prodBad at hb
  simp only [Bool.or_eq_false_iff] at hb
  obtain ⟨hs, hf, hr⟩ := hb
  have hf' : anyBad feeBad p.fees = none := by cases hq : anyBad feeBad p.fees <;> rw [hq] at hf <;> first | rfl | cases hf
  have hr' : anyBad ruleBad p.rules = none := by cases hq : anyBad ruleBad p.rules <;> rw [hq] at hr <;> first | rfl | cases hr
  unfold sizeBad at hs
  simp only [Bool.or_eq_false_iff, decide_eq_false_iff_not] at hs
  refine ⟨by omega, by omega, by omega, by omega, fun f hfm => ?_, fun r hrm => ?_⟩
  · have := anyBad_none.1 hf' f hfm
    unfold feeBad at this
    simp only [Bool.or_eq_false_iff, decide_eq_false_iff_not] at this
    exact ⟨List.eq_nil_of_length_eq_zero (by omega), List.eq_nil_of_length_eq_zero (by omega)⟩
  · have := anyBad_none.1 hr' r hrm
    unfold ruleBad at this
    simp only [Bool.or_eq_false_iff, decide_eq_false_iff_not] at this
    exact List.eq_nil_of_length_eq_zero (by omega)
theorem l34 (o1 n1 o2 n2 : Int) (s1 s2 : List UInt8) : loopK O [2, 3, 5] body34_1 [(2, .bx [.i .i64 o1, .i .i64 n1, .s s1, .l []]), (3, .bx [.i .i64 o2, .i .i64 n2, .s s2, .l []]), (5, .i .i64 0)] = some (.e 0, []) := by
  have := loopK_run (o := O) (kin := [2, 3, 5]) (c := body34_1) (fun i => [(2, .bx [.i .i64 o1, .i .i64 n1, .s s1, .l []]), (3, .bx [.i .i64 o2, .i .i64 n2, .s s2, .l []]), (5, .i .i64 i)]) 0 (.e 0, []) (by simp) (fun i hi => by omega) (by simp [body34_1]) (by simp)
  exact this
theorem e34 (x y : Expr) (hx : x.args = []) (hy : y.args = []) : O 34 [x.v, y.v] = some (.b (sameE x y)) := by
  refine orun (fc := code34) rfl rfl rfl ?_
  unfold sameE
  obtain ⟨o1, n1, s1, a1⟩ := x
  obtain ⟨o2, n2, s2, a2⟩ := y
  simp only at hx hy
  subst hx hy
  by_cases h1 : o1 = o2
  · by_cases h2 : n1 = n2
    · have hl := l34 o2 n2 o2 n2 s2 s2
      by_cases h3 : s1 = s2 <;> simp [code34, exec_loopK, hl, h1, h2, h3]
    · simp [code34, h1, h2]
  · simp [code34, h1]
theorem l32 (x y : Interest) (hl : x.tiers.length = y.tiers.length) (h : x.tiers.length ≤ 1000) : loopK O [2, 3, 5] body32_1 [(2, .bx x.cells), (3, .bx y.cells), (5, .i .i64 0)] = some (optE (fun (_ : Unit) => (.r, [(4, .b false)])) (.e 0, []) (pairS sameT x.tiers y.tiers)) := by
  have := loopK_code (o := O) (kin := [2, 3, 5]) (c := body32_1) (fun i => [(2, .bx x.cells), (3, .bx y.cells), (5, .i .i64 i)]) x.tiers.length (pairB sameT x.tiers y.tiers) (fun (_ : Unit) => (.r, [(4, .b false)])) (.e 0, []) (by simp) (by simp) (fun i hi => by
    have hj : i < y.tiers.length := by omega
    have hw := wrap_i64 ((i : Int) + 1) (by omega)
    rw [pairB_eq sameT hl hi]
    unfold sameT
    by_cases h1 : x.tiers[i].from' = y.tiers[i].from'
    · by_cases h2 : x.tiers[i].ppm = y.tiers[i].ppm <;> simp [body32_1, eqCells, hi, hj, hw, h1, h2]
    · simp [body32_1, eqCells, hi, hj, h1]) (by simp [body32_1]) (by simp)
  exact this
theorem e32 (x y : Interest) (h : x.tiers.length ≤ 1000) : O 32 [x.v, y.v] = some (.b (sameI x y)) := by
  refine orun (fc := code32) rfl rfl rfl ?_
  unfold sameI sameL
  by_cases h0 : x.tiers.length = y.tiers.length
  · by_cases h1 : x.marginal = y.marginal
    · by_cases h2 : x.basis = y.basis
      · by_cases h3 : x.mode' = y.mode'
        · by_cases h4 : x.keep = y.keep
          · have hl := l32 x y h0 h
            simp only [Interest.cells, h1, h2, h3, h4] at hl
            cases hp : pairS sameT x.tiers y.tiers <;> rw [hp] at hl <;> simp [code32, exec_loopK, hl, h0, h1, h2, h3, h4]
          · simp [code32, h0, h1, h2, h3, h4]
        · simp [code32, h0, h1, h2, h3]
      · simp [code32, h0, h1, h2]
    · simp [code32, h0, h1]
  · have h0' : ¬ (x.tiers.length : Int) = y.tiers.length := by omega
    simp [code32, h0, h0']
theorem l33 (a b : List Fee) (hl : a.length = b.length) (h : a.length ≤ 1000) (ha : ∀ f ∈ a, feeOk f) (hb : ∀ f ∈ b, feeOk f) : loopK O [0, 1, 5] body33_1 [(0, .l (encL Fee.v a)), (1, .l (encL Fee.v b)), (5, .i .i64 0)] = some (optE (fun (_ : Unit) => (.r, [(4, .b false)])) (.e 0, []) (pairS sameF a b)) := by
  have := loopK_code (o := O) (kin := [0, 1, 5]) (c := body33_1) (fun i => [(0, .l (encL Fee.v a)), (1, .l (encL Fee.v b)), (5, .i .i64 i)]) a.length (pairB sameF a b) (fun (_ : Unit) => (.r, [(4, .b false)])) (.e 0, []) (by simp) (by simp) (fun i hi => by
    have hj : i < b.length := by omega
    have hw := wrap_i64 ((i : Int) + 1) (by omega)
    have h1a := ha _ (List.getElem_mem hi)
    have h1b := hb _ (List.getElem_mem hj)
    have hx := e34 a[i].when b[i].when h1a.1 h1b.1
    have hy := e34 a[i].amount b[i].amount h1a.2 h1b.2
    rw [pairB_eq sameF hl hi]
    unfold sameF
    by_cases h1 : a[i].name = b[i].name
    · by_cases h2 : a[i].event = b[i].event
      · cases hq1 : sameE a[i].when b[i].when <;> rw [hq1] at hx
        · simp [body33_1, hi, hj, h1, h2, hx]
        · cases hq2 : sameE a[i].amount b[i].amount <;> rw [hq2] at hy <;> simp [body33_1, hi, hj, hw, h1, h2, hx, hy]
      · simp [body33_1, hi, hj, h1, h2]
    · simp [body33_1, hi, hj, h1]) (by simp [body33_1]) (by simp)
  exact this
theorem e33 (a b : List Fee) (h : a.length ≤ 1000) (ha : ∀ f ∈ a, feeOk f) (hb : ∀ f ∈ b, feeOk f) : O 33 [.l (encL Fee.v a), .l (encL Fee.v b)] = some (.b (sameL sameF a b)) := by
  refine orun (fc := code33) rfl rfl rfl ?_
  unfold sameL
  by_cases h0 : a.length = b.length
  · have hl := l33 a b h0 h ha hb
    cases hp : pairS sameF a b <;> rw [hp] at hl <;> simp [code33, exec_loopK, hl, h0]
  · have h0' : ¬ (a.length : Int) = b.length := by omega
    simp [code33, h0, h0']
theorem l20 (p q : Product) (hl : p.rules.length = q.rules.length) (h : p.rules.length ≤ 1000) (ha : ∀ f ∈ p.rules, ruleOk f) (hb : ∀ f ∈ q.rules, ruleOk f) : loopK O [2, 3, 5] body20_1 [(2, .bx p.cells), (3, .bx q.cells), (5, .i .i64 0)] = some (optE (fun (_ : Unit) => (.r, [(4, .b false)])) (.e 0, []) (pairS sameR p.rules q.rules)) := by
  have := loopK_code (o := O) (kin := [2, 3, 5]) (c := body20_1) (fun i => [(2, .bx p.cells), (3, .bx q.cells), (5, .i .i64 i)]) p.rules.length (pairB sameR p.rules q.rules) (fun (_ : Unit) => (.r, [(4, .b false)])) (.e 0, []) (by simp) (by simp) (fun i hi => by
    have hj : i < q.rules.length := by omega
    have hw := wrap_i64 ((i : Int) + 1) (by omega)
    have hy := e34 p.rules[i].amount q.rules[i].amount (ha _ (List.getElem_mem hi)) (hb _ (List.getElem_mem hj))
    rw [pairB_eq sameR hl hi]
    unfold sameR
    by_cases h1 : p.rules[i].name = q.rules[i].name
    · by_cases h2 : p.rules[i].window = q.rules[i].window
      · cases hq2 : sameE p.rules[i].amount q.rules[i].amount <;> rw [hq2] at hy <;> simp [body20_1, Product.rest, hi, hj, hw, h1, h2, hy]
      · simp [body20_1, Product.rest, hi, hj, h1, h2]
    · simp [body20_1, Product.rest, hi, hj, h1]) (by simp [body20_1, Product.rest]) (by simp)
  exact this
theorem e20 (p q : Product) (hp : Lite p) (hq : Lite q) : O 20 [p.v, q.v] = some (.b (sameP p q)) := by
  refine orun (fc := code20) rfl rfl rfl ?_
  obtain ⟨p1, p2, p3, p4, p5, p6⟩ := hp
  obtain ⟨q1, q2, q3, q4, q5, q6⟩ := hq
  have hc := e32 p.credit q.credit p1
  have hd := e32 p.debit q.debit p2
  have hf := e33 p.fees q.fees p3 p5 q5
  have hlr : p.rules.length = q.rules.length → _ := fun h0 => l20 p q h0 p4 p6 q6
  unfold sameP
  generalize hsr : sameL sameR p.rules q.rules = sr
  unfold sameL at hsr
  cases hh : sameH p q with
  | false =>
    unfold sameH at hh
    by_cases h1 : p.name = q.name
    · by_cases h2 : p.currency = q.currency
      · by_cases h3 : p.calendar = q.calendar
        · by_cases h4 : p.from' = q.from'
          · by_cases h5 : p.every = q.every
            · by_cases h6 : p.overdraft = q.overdraft
              · by_cases h7 : p.taxPpm = q.taxPpm
                · simp [h1, h2, h3, h4, h5, h6, h7] at hh
                · simp [code20, Product.rest, h1, h2, h3, h4, h5, h6, h7]
              · simp [code20, Product.rest, h1, h2, h3, h4, h5, h6]
            · simp [code20, Product.rest, h1, h2, h3, h4, h5]
          · simp [code20, Product.rest, h1, h2, h3, h4]
        · simp [code20, Product.rest, h1, h2, h3]
      · simp [code20, Product.rest, h1, h2]
    · simp [code20, Product.rest, h1]
  | true =>
    unfold sameH at hh
    simp only [Bool.and_eq_true, decide_eq_true_eq] at hh
    obtain ⟨h1, h2, h3, h4, h5, h6, h7⟩ := hh
    cases hci : sameI p.credit q.credit <;> rw [hci] at hc
    · simp [code20, Product.rest, h1, h2, h3, h4, h5, h6, h7, hc]
    cases hdi : sameI p.debit q.debit <;> rw [hdi] at hd
    · simp [code20, Product.rest, h1, h2, h3, h4, h5, h6, h7, hc, hd]
    cases hfi : sameL sameF p.fees q.fees <;> rw [hfi] at hf
    · simp [code20, Product.rest, h1, h2, h3, h4, h5, h6, h7, hc, hd, hf]
    by_cases h0 : p.rules.length = q.rules.length
    · have hl := hlr h0
      simp only [h0, decide_true, Bool.true_and] at hsr
      simp only [Product.cells, Product.rest, h1, h2, h3, h4, h5, h6, h7] at hl
      cases hp : pairS sameR p.rules q.rules <;> rw [hp] at hl hsr <;> subst hsr <;> simp [code20, Product.rest, exec_loopK, hl, h0, h1, h2, h3, h4, h5, h6, h7, hc, hd, hf]
    · have h0' : ¬ (p.rules.length : Int) = q.rules.length := by omega
      simp only [h0, decide_false, Bool.false_and] at hsr
      subst hsr
      simp [code20, Product.rest, h0', h1, h2, h3, h4, h5, h6, h7, hc, hd, hf]
theorem l15 (a : List Product) (h : a.length ≤ 1000) (ha : ∀ p ∈ a, Lite p) : loopK O [0, 1, 5] body15_1 [(0, .l (encL Product.v a)), (1, .l (encL Product.v a)), (5, .i .i64 0)] = some (.e 0, []) := by
  have := loopK_run (o := O) (kin := [0, 1, 5]) (c := body15_1) (fun i => [(0, .l (encL Product.v a)), (1, .l (encL Product.v a)), (5, .i .i64 i)]) a.length (.e 0, []) (by simp) (fun i hi => by
    have hw := wrap_i64 (i + 1) (by omega)
    have hp := ha _ (List.getElem_mem hi)
    have h20 := e20 a[i] a[i] hp hp
    rw [sameP_refl] at h20
    simp [body15_1, hi, hw, h20]) (by simp [body15_1]) (by simp)
  exact this
/-- A list of versions equals itself. -/
theorem e15 (a : List Product) (h : a.length ≤ 1000) (ha : ∀ p ∈ a, Lite p) : O 15 [.l (encL Product.v a), .l (encL Product.v a)] = some (.b true) := by
  refine orun (fc := code15) rfl rfl rfl ?_
  have hl := l15 a h ha
  simp [code15, exec_loopK, hl]
end Go.Proofs.Ytlmbgmobghmmmaa
