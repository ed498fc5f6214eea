/-
  The check of books, and what it says: the list of entries, the parts of Check, Few, sound.
-/
import Derived.Test.YtdlpbedneamebaaGreatDoorVer
import Derived.Test.YtdlpbedneamebaaGreatDoorTree6
import Derived.Test.YtdlpbedneamebaaGreatDoorChart
import Derived.Test.YtdlpbedneamebaaGreatDoorTot5
namespace Go.Proofs.YtdlpbedneamebaaGreatDoor
open Go.VM
variable {X : Orc}
theorem t85 (b : Books) (e : Entry) (h : Szs b) (h12 : e.legs.length ≤ 1000) : ∃ n : Int, O X 85 [b.v, e.v] = some (.i .i64 n) ∧ (n = 0 → ∀ x ∈ e.legs, KnownL b x.account) := by
  have hl := loopK_inv (o := O X) (kin := [2, 3, 5]) (c := body85_1) (fun i env => env = [(2, .bx b.cells), (3, .bx e.cells), (5, .i .i64 (i : Int))] ∧ ∀ (k : Nat) (hk : k < e.legs.length), k < i → KnownL b e.legs[k].account) e.legs.length (fun r => (∃ n : Int, r = (.r, [(4, .i .i64 n)]) ∧ n ≠ 0) ∨ (r = (.e 0, []) ∧ ∀ x ∈ e.legs, KnownL b x.account)) (fun i env hI => by obtain ⟨rfl, _⟩ := hI; simp) (fun i env hi hI => by
    obtain ⟨rfl, hz⟩ := hI
    have hw := wrap_i64 (i + 1) (by omega)
    obtain ⟨n, hn, hk⟩ := t138 (X := X) b e.legs[i] e.booked h
    have hbl : b.cells.length = 22 := rfl
    have hbv : b.v = .a b.cells := rfl
    rw [hbv] at hn
    generalize b.cells = B at hn hbl ⊢
    by_cases h0 : n = 0
    · subst h0
      left
      refine ⟨[(2, .bx B), (3, .bx e.cells), (5, .i .i64 ((i + 1 : Nat) : Int))], by simp [body85_1, hi, hw, hn, hbl], rfl, fun k hk2 hki => ?_⟩
      by_cases e : k = i
      · subst e; exact hk rfl
      · exact hz k hk2 (by omega)
    · right
      exact ⟨(.r, [(4, .i .i64 n)]), by simp [body85_1, hi, hn, h0, hbl], by simp, .inl ⟨n, rfl, h0⟩⟩) (fun env hI => by
    obtain ⟨rfl, hz⟩ := hI
    refine ⟨(.e 0, []), by simp [body85_1], by simp, .inr ⟨rfl, fun m hm => ?_⟩⟩
    obtain ⟨k, hk, rfl⟩ := List.getElem_of_mem hm
    exact hz k hk hk) e.legs.length 0 [(2, .bx b.cells), (3, .bx e.cells), (5, .i .i64 ((0 : Nat) : Int))] (by omega) ⟨rfl, fun k _ h => absurd h (by omega)⟩
  obtain ⟨r, hl, hr⟩ := hl
  simp only [Int.natCast_zero] at hl
  rcases hr with ⟨n, rfl, hn⟩ | ⟨rfl, hk⟩
  · exact ⟨n, orun (fc := code85) rfl rfl rfl (by simp [code85, exec_loopK, hl]), fun e => absurd e hn⟩
  · exact ⟨0, orun (fc := code85) rfl rfl rfl (by simp [code85, exec_loopK, hl]), fun _ => hk⟩
def EntL (b : Books) (i : Nat) (e : Entry) : Prop := Chk e ∧ e.id = (i : Int) + 1 ∧ ∀ x ∈ e.legs, KnownL b x.account
set_option maxHeartbeats 4000000 in
theorem t41e (b : Books) (h : Szs b) (hl12 : ∀ e ∈ b.journal, e.legs.length ≤ 1000) : ∃ n : Int, O X 41 [b.v] = some (.i .i64 n) ∧ (n = 0 → ∀ (i : Nat) (hi : i < b.journal.length), EntL b i b.journal[i]) := by
  obtain ⟨m, hm, hmv⟩ := t84 (X := X) b.journal h.jour
  by_cases hm1 : m = -1
  · subst hm1
    have hv := hmv rfl
    have hl := loopK_inv (o := O X) (kin := [1, 3]) (c := body41_1) (fun i env => env = [(1, .bx b.cells), (3, .i .i64 (i : Int))] ∧ ∀ (k : Nat) (hk : k < b.journal.length), k < i → ∀ x ∈ b.journal[k].legs, KnownL b x.account) b.journal.length (fun r => r = (.r, [(2, .i .i64 25)]) ∨ (r = (.e 0, []) ∧ ∀ (k : Nat) (hk : k < b.journal.length), ∀ x ∈ b.journal[k].legs, KnownL b x.account)) (fun i env hI => by obtain ⟨rfl, _⟩ := hI; simp) (fun i env hi hI => by
      obtain ⟨rfl, hz⟩ := hI
      have hj := h.jour
      have hw := wrap_i64 (i + 1) (by omega)
      obtain ⟨n, hn, hk⟩ := t85 (X := X) b b.journal[i] h (hl12 _ (List.getElem_mem hi))
      by_cases h0 : n = 0
      · subst h0
        left
        refine ⟨[(1, .bx b.cells), (3, .i .i64 ((i + 1 : Nat) : Int))], by simp [body41_1, hi, hw, hn], rfl, fun k hk2 hki => ?_⟩
        by_cases e : k = i
        · subst e; exact hk rfl
        · exact hz k hk2 (by omega)
      · right
        exact ⟨(.r, [(2, .i .i64 25)]), by simp [body41_1, hi, hn, h0], by simp, .inl rfl⟩) (fun env hI => by
      obtain ⟨rfl, hz⟩ := hI
      exact ⟨(.e 0, []), by simp [body41_1], by simp, .inr ⟨rfl, fun k hk => hz k hk hk⟩⟩) b.journal.length 0 [(1, .bx b.cells), (3, .i .i64 ((0 : Nat) : Int))] (by omega) ⟨rfl, fun k _ h => absurd h (by omega)⟩
    obtain ⟨r, hl, hr⟩ := hl
    simp only [Int.natCast_zero] at hl
    rcases hr with rfl | ⟨rfl, hk⟩
    · exact ⟨25, orun (fc := code41) rfl rfl rfl (by simp [code41, hm, exec_loopK, hl]), by simp⟩
    · exact ⟨0, orun (fc := code41) rfl rfl rfl (by simp [code41, hm, exec_loopK, hl]), fun _ i hi => ⟨(hv i hi).1, (hv i hi).2, hk i hi⟩⟩
  · exact ⟨25, orun (fc := code41) rfl rfl rfl (by simp [code41, hm, hm1]), by simp⟩
end Go.Proofs.YtdlpbedneamebaaGreatDoor
namespace Go.Proofs.YtdlpbedneamebaaGreatDoor
open Go.VM
variable {X : Orc}
theorem t37c (l : List Calendar) (hl : l.length ≤ 1000) (hc : ∀ c ∈ l, c.weekend.length ≤ 1000 ∧ c.holidays.length ≤ 1000) : ∃ n : Int, O X 37 [.l (encL Calendar.v l)] = some (.i .i64 n) := by
  have hx : ∃ r, loopK (O X) [0, 3] body37_1 [(0, .l (encL Calendar.v l)), (3, .i .i64 (0 : Nat))] = some r ∧ ((∃ n : Int, r = (.r, [(2, .i .i64 n)])) ∨ r = (.e 0, [])) := by
    refine loopK_tot (fun i => [(0, .l (encL Calendar.v l)), (3, .i .i64 (i : Int))]) l.length _ (by simp) (fun i hi => ?_) (by simp [body37_1])
    have hw := wrap_i64 (i + 1) (by omega)
    have hx := hc _ (List.getElem_mem hi)
    obtain ⟨n, hn⟩ := t12 (X := X) l[i] hx.1 hx.2
    by_cases hn0 : n = 0
    · subst hn0
      by_cases h0 : i = 0
      · subst h0
        simp [-Prod.exists, body37_1, hi, w1, hn]
      · obtain ⟨p, hp⟩ : ∃ p, p + 1 = i := ⟨i - 1, by omega⟩
        have hpl : p < l.length := by omega
        have h0' : 0 < i := by omega
        have hw1 : IntKind.i64.wrap ((i : Int) - 1) = (p : Int) := by rw [wrap_i64 _ (by omega)]; omega
        by_cases hbk : Op.bytesLess l[i].name l[p].name = true
        · simp [-Prod.exists, body37_1, hi, hn, h0', hw1, hpl, hbk]
        · by_cases hbe : l[i].name = l[p].name
          · simp only [Calendar.v, hbe] at hn
            simp [-Prod.exists, body37_1, hi, hn, h0', hw1, hpl, hbe]
          · simp [-Prod.exists, body37_1, hi, hw, hn, h0', hw1, hpl, hbk, hbe]
    · simp [-Prod.exists, body37_1, hi, hn, hn0]
  obtain ⟨r, hx, hr⟩ := hx
  simp only [Int.natCast_zero] at hx
  rcases hr with ⟨n, rfl⟩ | rfl
  · exact ⟨n, orun (fc := code37) rfl rfl rfl (by simp [code37, exec_loopK, hx])⟩
  · exact ⟨0, orun (fc := code37) rfl rfl rfl (by simp [code37, exec_loopK, hx])⟩
def okBk (b : Books) : Prop := ∀ p ∈ b.products, (∀ f ∈ p.fees, f.okX) ∧ ∀ f ∈ p.rules, f.okX
theorem t39p (b : Books) (h : Szs b) (hcl : b.calendars.length ≤ 1000) (hf : okBk b) : ∃ n : Int, O X 39 [b.v] = some (.i .i64 n) := by
  obtain ⟨m, hm⟩ := t11 (X := X) b.products
  have hpl := h.prods
  have hx := loopK_inv (o := O X) (kin := [1, 3, 4]) (c := body39_1) (fun i env => ∃ n : Int, env = [(1, .bx b.cells), (3, .i .i64 n), (4, .i .i64 (i : Int))]) b.products.length (fun r => ∃ n : Int, r = (.e 0, [(3, .i .i64 n)])) (fun i env hI => by obtain ⟨n, rfl⟩ := hI; simp) (fun i env hi hI => by
    obtain ⟨n, rfl⟩ := hI
    have hw := wrap_i64 (i + 1) (by omega)
    by_cases h0 : n = 0
    · subst h0
      left
      have hx := hf _ (List.getElem_mem hi)
      obtain ⟨n, hn⟩ := t13 (X := X) b.products[i] b.currencies b.calendars h.curs hcl hx.1 hx.2
      exact ⟨[(1, .bx b.cells), (3, .i .i64 n), (4, .i .i64 ((i + 1 : Nat) : Int))], by simp [body39_1, hi, hw, hn], n, rfl⟩
    · right
      exact ⟨(.e 0, [(3, .i .i64 n)]), by simp [body39_1, hi, h0], by simp, n, rfl⟩) (fun env hI => by
    obtain ⟨n, rfl⟩ := hI
    exact ⟨(.e 0, [(3, .i .i64 n)]), by simp [body39_1], by simp, n, rfl⟩) b.products.length 0 [(1, .bx b.cells), (3, .i .i64 m), (4, .i .i64 ((0 : Nat) : Int))] (by omega) ⟨m, rfl⟩
  obtain ⟨r, hx, n, rfl⟩ := hx
  simp only [Int.natCast_zero] at hx
  exact ⟨n, orun (fc := code39) rfl rfl rfl (by simp [code39, hm, exec_loopK, hx])⟩
structure SNB (b : Books) : Prop where
  accs : b.accounts.length ≤ 8
  jour : b.journal.length ≤ 90
  chartL : b.chart.length ≤ 40
  curs : b.currencies.length ≤ 8
  prods : b.products.length ≤ 12
  chart : chkG b.chart b.plan = 0
  ents : ∀ (i : Nat) (hi : i < b.journal.length), EntL b i b.journal[i]
structure FEW (b : Books) : Prop where
  accs : b.accounts.length ≤ 8
  jour : b.journal.length ≤ 90
  chartL : b.chart.length ≤ 40
  prods : b.products.length ≤ 12
  cals : b.calendars.length ≤ 4
  curs : b.currencies.length ≤ 8
  cal : ∀ c ∈ b.calendars, c.weekend.length ≤ 10 ∧ c.holidays.length ≤ 40
  legs : ∀ e ∈ b.journal, e.legs.length ≤ 12
set_option maxHeartbeats 8000000 in
theorem t16c (b : Books) (hF : FEW b) (hf : okBk b) (hg : ∀ g ∈ b.chart, g.name.length ≤ maxLen) : ∃ n : Int, O X 16 [b.v] = some (.i .i64 n) ∧ (n = 0 → SNB b) := by
  have hS : Szs b := ⟨by have := hF.curs; omega, by have := hF.chartL; omega, by have := hF.accs; omega, by have := hF.prods; omega, by have := hF.jour; omega⟩
  have hgl : b.chart.length ≤ maxLen := by have := hF.chartL; unfold maxLen; omega
  have : ∃ y, O X 16 [b.v] = some y ∧ IP (SNB b) y := by
    refine orunE (fc := code16) rfl rfl rfl ?_
    obtain ⟨n1, h1⟩ := t9 (X := X) b.currencies
    obtain ⟨n2, h2⟩ := t37c (X := X) b.calendars (by have := hF.cals; omega) (fun c hc => by have := hF.cal c hc; omega)
    have h3 := e38 (X := X) b.chart b.plan hg hgl
    obtain ⟨n4, h4⟩ := t39p (X := X) b hS (by have := hF.cals; omega) hf
    obtain ⟨n5, h5⟩ := t14 (X := X) b hS.prods
    obtain ⟨n6, h6, f6⟩ := t41e (X := X) b hS (fun e he => by have := hF.legs e he; omega)
    obtain ⟨n7, h7⟩ := t16 (X := X) b.holds
    obtain ⟨n8, h8⟩ := t17 (X := X) b.blocks
    by_cases c1 : n1 = 0
    rotate_left
    · simp [code16, h1, c1]
    subst c1
    by_cases c2 : n2 = 0
    rotate_left
    · simp [code16, h1, h2, c2]
    subst c2
    by_cases c3 : chkG b.chart b.plan = 0
    rotate_left
    · simp [code16, h1, h2, h3, c3]
    rw [c3] at h3
    by_cases c4 : n4 = 0
    rotate_left
    · simp [code16, h1, h2, h3, h4, c4]
    subst c4
    by_cases c5 : n5 = 0
    rotate_left
    · simp [code16, h1, h2, h3, h4, h5, c5]
    subst c5
    by_cases c6 : n6 = 0
    rotate_left
    · simp [code16, h1, h2, h3, h4, h5, h6, c6]
    subst c6
    have hsn : SNB b := ⟨hF.accs, hF.jour, hF.chartL, hF.curs, hF.prods, c3, f6 rfl⟩
    by_cases c7 : n7 = 0
    · subst c7
      simp [code16, h1, h2, h3, h4, h5, h6, h7, h8, hsn]
    · simp [code16, h1, h2, h3, h4, h5, h6, h7, c7]
  obtain ⟨y, h, n, rfl, hp⟩ := this
  exact ⟨n, h, hp⟩
end Go.Proofs.YtdlpbedneamebaaGreatDoor
namespace Go.Proofs.YtdlpbedneamebaaGreatDoor
open Go.VM
variable {X : Orc}
theorem l15a (b : Books) (h : b.calendars.length ≤ 1000) : ∃ r, loopK (O X) [1, 3] body15_1 [(1, .bx b.cells), (3, .i .i64 0)] = some r ∧ (r = (.r, [(2, .b false)]) ∨ (r = (.e 0, [(1, .bx b.cells)]) ∧ ∀ c ∈ b.calendars, c.weekend.length ≤ 10 ∧ c.holidays.length ≤ 40)) := by
  have := loopK_inv (o := O X) (kin := [1, 3]) (c := body15_1) (fun i env => env = [(1, .bx b.cells), (3, .i .i64 (i : Int))] ∧ ∀ (k : Nat) (hk : k < b.calendars.length), k < i → b.calendars[k].weekend.length ≤ 10 ∧ b.calendars[k].holidays.length ≤ 40) b.calendars.length (fun r => r = (.r, [(2, .b false)]) ∨ (r = (.e 0, [(1, .bx b.cells)]) ∧ ∀ c ∈ b.calendars, c.weekend.length ≤ 10 ∧ c.holidays.length ≤ 40)) (fun i env hI => by obtain ⟨rfl, _⟩ := hI; simp) (fun i env hi hI => by
    obtain ⟨rfl, hz⟩ := hI
    have hw := wrap_i64 (i + 1) (by omega)
    by_cases h1 : (40 : Int) < (b.calendars[i].holidays.length : Int)
    · right
      exact ⟨(.r, [(2, .b false)]), by simp [body15_1, hi, h1], by simp, .inl rfl⟩
    by_cases h2 : (10 : Int) < (b.calendars[i].weekend.length : Int)
    · right
      exact ⟨(.r, [(2, .b false)]), by simp [body15_1, hi, h1, h2], by simp, .inl rfl⟩
    · left
      refine ⟨[(1, .bx b.cells), (3, .i .i64 ((i + 1 : Nat) : Int))], by simp [body15_1, hi, h1, h2, hw], rfl, fun k hk hki => ?_⟩
      by_cases e : k = i
      · subst e; omega
      · exact hz k hk (by omega)) (fun env hI => by
    obtain ⟨rfl, hz⟩ := hI
    refine ⟨(.e 0, [(1, .bx b.cells)]), by simp [body15_1], by simp, .inr ⟨rfl, fun c hc => ?_⟩⟩
    obtain ⟨k, hk, rfl⟩ := List.getElem_of_mem hc
    exact hz k hk hk) b.calendars.length 0 [(1, .bx b.cells), (3, .i .i64 ((0 : Nat) : Int))] (by omega) ⟨rfl, fun k _ h => absurd h (by omega)⟩
  simpa using this
theorem l15b (b : Books) (h : b.journal.length ≤ 1000) : ∃ r, loopK (O X) [1, 4] body15_2 [(1, .bx b.cells), (4, .i .i64 0)] = some r ∧ (r = (.r, [(2, .b false)]) ∨ (r = (.e 2, []) ∧ ∀ e ∈ b.journal, e.legs.length ≤ 12)) := by
  have := loopK_inv (o := O X) (kin := [1, 4]) (c := body15_2) (fun i env => env = [(1, .bx b.cells), (4, .i .i64 (i : Int))] ∧ ∀ (k : Nat) (hk : k < b.journal.length), k < i → b.journal[k].legs.length ≤ 12) b.journal.length (fun r => r = (.r, [(2, .b false)]) ∨ (r = (.e 2, []) ∧ ∀ e ∈ b.journal, e.legs.length ≤ 12)) (fun i env hI => by obtain ⟨rfl, _⟩ := hI; simp) (fun i env hi hI => by
    obtain ⟨rfl, hz⟩ := hI
    have hw := wrap_i64 (i + 1) (by omega)
    by_cases h1 : (12 : Int) < (b.journal[i].legs.length : Int)
    · right
      exact ⟨(.r, [(2, .b false)]), by simp [body15_2, hi, h1], by simp, .inl rfl⟩
    · left
      refine ⟨[(1, .bx b.cells), (4, .i .i64 ((i + 1 : Nat) : Int))], by simp [body15_2, hi, h1, hw], rfl, fun k hk hki => ?_⟩
      by_cases e : k = i
      · subst e; omega
      · exact hz k hk (by omega)) (fun env hI => by
    obtain ⟨rfl, hz⟩ := hI
    refine ⟨(.e 2, []), by simp [body15_2], by simp, .inr ⟨rfl, fun c hc => ?_⟩⟩
    obtain ⟨k, hk, rfl⟩ := List.getElem_of_mem hc
    exact hz k hk hk) b.journal.length 0 [(1, .bx b.cells), (4, .i .i64 ((0 : Nat) : Int))] (by omega) ⟨rfl, fun k _ h => absurd h (by omega)⟩
  simpa using this
set_option maxHeartbeats 8000000 in
theorem t15f (b : Books) : ∃ t : Bool, O X 15 [b.v] = some (.b t) ∧ (t = true → FEW b) := by
  have : ∃ y, O X 15 [b.v] = some y ∧ BP (FEW b) y := by
    refine orunE (fc := code15) rfl rfl rfl ?_
    by_cases c1 : (8 : Int) < (b.accounts.length : Int)
    · simp [code15, c1]
    by_cases c2 : (90 : Int) < (b.journal.length : Int)
    · simp [code15, c1, c2]
    by_cases c3 : (40 : Int) < (b.chart.length : Int)
    · simp [code15, c1, c2, c3]
    by_cases c4 : (12 : Int) < (b.products.length : Int)
    · simp [code15, c1, c2, c3, c4]
    by_cases c5 : (4 : Int) < (b.calendars.length : Int)
    · simp [code15, c1, c2, c3, c4, c5]
    by_cases c6 : (20 : Int) < (b.holds.length : Int)
    · simp [code15, c1, c2, c3, c4, c5, c6]
    by_cases c7 : (20 : Int) < (b.blocks.length : Int)
    · simp [code15, c1, c2, c3, c4, c5, c6, c7]
    by_cases c8 : (8 : Int) < (b.currencies.length : Int)
    · simp [code15, c1, c2, c3, c4, c5, c6, c7, c8]
    obtain ⟨r1, h1, q1⟩ := l15a (X := X) b (by omega)
    obtain ⟨r2, h2, q2⟩ := l15b (X := X) b (by omega)
    rcases q1 with rfl | ⟨rfl, q1⟩
    · simp [code15, c1, c2, c3, c4, c5, c6, c7, c8, exec_loopK, h1]
    rcases q2 with rfl | ⟨rfl, q2⟩
    · simp [code15, c1, c2, c3, c4, c5, c6, c7, c8, exec_loopK, h1, h2]
    have hF : FEW b := ⟨by omega, by omega, by omega, by omega, by omega, by omega, q1, q2⟩
    simp [code15, c1, c2, c3, c4, c5, c6, c7, c8, exec_loopK, h1, h2, hF]
  obtain ⟨y, h, t, rfl, hp⟩ := this
  exact ⟨t, h, hp⟩
theorem t5s (b : Books) (hf : okBk b) (hg : ∀ g ∈ b.chart, g.name.length ≤ maxLen) : ∃ t : Bool, O X 5 [b.v] = some (.b t) ∧ (t = true → FEW b ∧ SNB b) := by
  obtain ⟨t, h15, hF⟩ := t15f (X := X) b
  cases t with
  | false => exact ⟨false, orun (fc := code5) rfl rfl rfl (by simp [code5, h15]), by simp⟩
  | true =>
    obtain ⟨n, h16, hs⟩ := t16c (X := X) b (hF rfl) hf hg
    by_cases h0 : n = 0
    · subst h0
      exact ⟨true, orun (fc := code5) rfl rfl rfl (by simp [code5, h15, h16]), fun _ => ⟨hF rfl, hs rfl⟩⟩
    · exact ⟨false, orun (fc := code5) rfl rfl rfl (by simp [code5, h15, h16, h0]), by simp⟩
end Go.Proofs.YtdlpbedneamebaaGreatDoor
