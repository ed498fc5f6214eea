/-
  The check of a journal, and what it says.
-/
import Derived.Test.YtmhbkofbbkogeaaGreatSums
import Derived.Test.YtmhbkofbbkogeaaGreatLeav
import Derived.Test.YtmhbkofbbkogeaaGreatSpec3
namespace Go.Proofs.YtmhbkofbbkogeaaGreat
open Go.VM
variable {X : Orc}
/-- An account that stands in the chart, or one of a customer's. -/
def Known (b : Books) (id : Int) : Prop := (findG b.chart id).isSome = true ∨ (posA b.accounts id).isSome = true
structure Szs (b : Books) : Prop where
  curs : b.currencies.length ≤ 1000
  chart : b.chart.length ≤ 1000
  accs : b.accounts.length ≤ 1000
  prods : b.products.length ≤ 1000
  jour : b.journal.length ≤ 1000
theorem gV_ex (q : Option Gl) : ∃ (c : Gl) (t : Bool), gV q = .t [c.v, .b t] ∧ (t = true → q.isSome = true) := by
  cases q with
  | none => exact ⟨g0, false, rfl, by simp⟩
  | some c => exact ⟨c, true, rfl, by simp⟩
theorem cV_ex' (q : Option Currency) : ∃ (c : Currency) (t : Bool), cV q = .t [c.v, .b t] := by
  cases q with
  | none => exact ⟨c0, false, rfl⟩
  | some c => exact ⟨c, true, rfl⟩
set_option maxHeartbeats 8000000 in
theorem r47 (b : Books) (e : Entry) (h : Szs b) (i : Nat) (hi : i < e.legs.length) (h12 : e.legs.length ≤ 1000) :
    (kE [2, 3, 5] (exec (O X) body47_1 [(2, .bx b.cells), (3, .bx e.cells), (5, .i .i64 (i : Int))]) = some (.n, [(2, .bx b.cells), (3, .bx e.cells), (5, .i .i64 ((i + 1 : Nat) : Int))]) ∧ Known b e.legs[i].account) ∨ exec (O X) body47_1 [(2, .bx b.cells), (3, .bx e.cells), (5, .i .i64 (i : Int))] = some (.r, [(4, .b false)]) := by
  have hw := wrap_i64 (i + 1) (by omega)
  have h39 := e39 (X := X) b.currencies e.legs[i].currency h.curs
  obtain ⟨c, t1, hc⟩ := cV_ex' (findC b.currencies e.legs[i].currency)
  rw [hc] at h39
  cases t1 with
  | false => right; simp (config := { maxSteps := 1000000 }) [body47_1, hi, h39]
  | true =>
  by_cases hlt : e.legs[i].account < 1000
  · have h32 := e32 (X := X) b.chart e.legs[i].account h.chart
    obtain ⟨g, t2, hg, hk⟩ := gV_ex (findG b.chart e.legs[i].account)
    rw [hg] at h32
    have h68 := e68 (X := X) b.chart e.legs[i].account h.chart
    have hL : (ints (lvsF b.chart e.legs[i].account)).length = (lvsF b.chart e.legs[i].account).length := by simp
    generalize lvsF b.chart e.legs[i].account = L at h68 hL
    cases t2 with
    | false => right; simp (config := { maxSteps := 1000000 }) [body47_1, hi, h39, hlt, h32]
    | true =>
      by_cases hl1 : L.length = 1
      · obtain ⟨a, rfl⟩ := List.length_eq_one_iff.1 hl1
        by_cases ha : a = e.legs[i].account
        · left
          refine ⟨?_, .inl (hk rfl)⟩
          simp (config := { maxSteps := 1000000 }) [body47_1, hi, h39, hlt, h32, h68, ha, hw]
        · right
          simp (config := { maxSteps := 1000000 }) [body47_1, hi, h39, hlt, h32, h68, ha]
      · right
        have hl1' : ¬ (L.length : Int) = 1 := by omega
        simp (config := { maxSteps := 1000000 }) [body47_1, hi, h39, hlt, h32, h68, hl1']
  · obtain ⟨p, u, h69, hu⟩ := t69 (X := X) b e.legs[i].account e.booked h.accs h.prods
    obtain ⟨t, h70, _⟩ := t70 (X := X) b e.legs[i].account e.booked h.accs
    cases u with
    | false => right; simp (config := { maxSteps := 1000000 }) [body47_1, hi, h39, hlt, h69]
    | true =>
      by_cases hcu : p.currency = e.legs[i].currency
      · cases t with
        | false => right; simp (config := { maxSteps := 1000000 }) [body47_1, hi, h39, hlt, h69, hcu, h70]
        | true =>
          left
          refine ⟨?_, .inr (hu rfl)⟩
          simp (config := { maxSteps := 1000000 }) [body47_1, hi, h39, hlt, h69, hcu, h70, hw]
      · right; simp (config := { maxSteps := 1000000 }) [body47_1, hi, h39, hlt, h69, hcu]
theorem t47 (b : Books) (e : Entry) (h : Szs b) (h12 : e.legs.length ≤ 1000) : ∃ t : Bool, O X 47 [b.v, e.v] = some (.b t) ∧ (t = true → ∀ x ∈ e.legs, Known b x.account) := by
  have hl := loopK_inv (o := O X) (kin := [2, 3, 5]) (c := body47_1) (fun i env => env = [(2, .bx b.cells), (3, .bx e.cells), (5, .i .i64 (i : Int))] ∧ ∀ (k : Nat) (hk : k < e.legs.length), k < i → Known b e.legs[k].account) e.legs.length (fun r => r = (.r, [(4, .b false)]) ∨ (r = (.e 0, []) ∧ ∀ x ∈ e.legs, Known b x.account)) (fun i env hI => by obtain ⟨rfl, _⟩ := hI; simp) (fun i env hi hI => by
    obtain ⟨rfl, hz⟩ := hI
    rcases r47 (X := X) b e h i hi h12 with ⟨h1, h2⟩ | h1
    · left
      refine ⟨_, h1, rfl, fun k hk hki => ?_⟩
      by_cases e : k = i
      · subst e; exact h2
      · exact hz k hk (by omega)
    · exact .inr ⟨_, h1, by simp, .inl rfl⟩) (fun env hI => by
    obtain ⟨rfl, hz⟩ := hI
    refine ⟨(.e 0, []), by simp [body47_1], by simp, .inr ⟨rfl, fun m hm => ?_⟩⟩
    obtain ⟨k, hk, rfl⟩ := List.getElem_of_mem hm
    exact hz k hk hk) e.legs.length 0 [(2, .bx b.cells), (3, .bx e.cells), (5, .i .i64 ((0 : Nat) : Int))] (by omega) ⟨rfl, fun k _ h => absurd h (by omega)⟩
  obtain ⟨r, hl, hr⟩ := hl
  simp only [Int.natCast_zero] at hl
  rcases hr with rfl | ⟨rfl, hk⟩
  · exact ⟨false, orun (fc := code47) rfl rfl rfl (by simp [code47, exec_loopK, hl]), by simp⟩
  · exact ⟨true, orun (fc := code47) rfl rfl rfl (by simp [code47, exec_loopK, hl]), fun _ => hk⟩
/-- What a journal says of each of its entries. -/
def EntOK (b : Books) (e : Entry) : Prop := e.legs.length ≤ 12 ∧ Flat e.legs ∧ ∀ x ∈ e.legs, Known b x.account
theorem l15 (b : Books) (h : b.journal.length ≤ 1000) (i : Nat) (hi : i < b.journal.length) (e : Entry) : ∃ r, loopK (O X) [1, 3, 4, 5] body15_1 [(1, .bx b.cells), (3, .i .i64 i), (4, .bx e.cells), (5, .i .i64 0)] = some r ∧ (r = (.r, [(2, .b false)]) ∨ r = (.e 2, [(1, .bx b.cells), (3, .i .i64 i)])) := by
  have := loopK_tot (o := O X) (kin := [1, 3, 4, 5]) (c := body15_1) (fun k => [(1, .bx b.cells), (3, .i .i64 (i : Int)), (4, .bx e.cells), (5, .i .i64 (k : Int))]) i (fun r => r = (.r, [(2, .b false)]) ∨ r = (.e 2, [(1, .bx b.cells), (3, .i .i64 i)])) (by simp) (fun k hk => by
    have hw := wrap_i64 (k + 1) (by omega)
    have hkl : k < b.journal.length := by omega
    have hki : (k : Int) < (i : Int) := by omega
    by_cases hc : b.journal[k].key = e.key <;> simp [-Prod.exists, body15_1, hkl, hki, hw, hc]) (by simp [body15_1])
  simpa using this
set_option maxHeartbeats 8000000 in
theorem r15 (b : Books) (h : Szs b) (hl12 : ∀ e ∈ b.journal, e.legs.length ≤ 1000) (i : Nat) (hi : i < b.journal.length) :
    (kE [1, 3] (exec (O X) body15_2 [(1, .bx b.cells), (3, .i .i64 (i : Int))]) = some (.n, [(1, .bx b.cells), (3, .i .i64 ((i + 1 : Nat) : Int))]) ∧ EntOK b b.journal[i]) ∨ exec (O X) body15_2 [(1, .bx b.cells), (3, .i .i64 (i : Int))] = some (.r, [(2, .b false)]) := by
  have hj := h.jour
  have hw := wrap_i64 (i + 1) (by omega)
  obtain ⟨n, h46, hn⟩ := t46 (X := X) b.journal[i]
  obtain ⟨t, h47, ht⟩ := t47 (X := X) b b.journal[i] h (hl12 _ (List.getElem_mem hi))
  obtain ⟨r, hl, hr⟩ := l15 (X := X) b hj i hi b.journal[i]
  generalize he : b.journal[i] = e at *
  obtain ⟨e1, e2, e3, e4, e5, e6, e7, e8, e9, e10⟩ := e
  by_cases hid : e1 = (i : Int) + 1
  · subst hid
    by_cases hn0 : n = 0
    · subst hn0
      by_cases h0 : i = 0
      · subst h0
        simp only [Entry.cells, Entry.v, Int.natCast_zero, Int.zero_add] at h46 h47 hl
        cases t with
        | false => right; simp (config := { maxSteps := 1000000 }) [body15_2, hi, he, w1, h46, h47]
        | true =>
          rcases hr with rfl | rfl
          · right; simp (config := { maxSteps := 1000000 }) [body15_2, exec_loopK, hi, he, w1, h46, h47, hl]
          · left
            refine ⟨?_, (hn rfl).1, (hn rfl).2, ht rfl⟩
            simp (config := { maxSteps := 1000000 }) [body15_2, exec_loopK, hi, he, w1, h46, h47, hl]
      · obtain ⟨p, hp⟩ : ∃ p, p + 1 = i := ⟨i - 1, by omega⟩
        have hpl : p < b.journal.length := by omega
        have h0' : 0 < i := by omega
        have hw1 : IntKind.i64.wrap ((i : Int) - 1) = (p : Int) := by rw [wrap_i64 _ (by omega)]; omega
        by_cases hbk : e2 < b.journal[p].booked
        · right; simp (config := { maxSteps := 1000000 }) [body15_2, hi, he, hw, h46, h0', hw1, hpl, hbk]
        · cases t with
          | false => right; simp (config := { maxSteps := 1000000 }) [body15_2, hi, he, hw, h46, h47, h0', hw1, hpl, hbk]
          | true =>
            rcases hr with rfl | rfl
            · right; simp (config := { maxSteps := 1000000 }) [body15_2, exec_loopK, hi, he, hw, h46, h47, h0', hw1, hpl, hbk, hl]
            · left
              refine ⟨?_, (hn rfl).1, (hn rfl).2, ht rfl⟩
              simp (config := { maxSteps := 1000000 }) [body15_2, exec_loopK, hi, he, hw, h46, h47, h0', hw1, hpl, hbk, hl]
    · right; simp (config := { maxSteps := 1000000 }) [body15_2, hi, he, hw, h46, hn0]
  · right; simp (config := { maxSteps := 1000000 }) [body15_2, hi, he, hid, hw]
theorem t15 (b : Books) (h : Szs b) (hl12 : ∀ e ∈ b.journal, e.legs.length ≤ 1000) : ∃ t : Bool, O X 15 [b.v] = some (.b t) ∧ (t = true → ∀ e ∈ b.journal, EntOK b e) := by
  have hl := loopK_inv (o := O X) (kin := [1, 3]) (c := body15_2) (fun i env => env = [(1, .bx b.cells), (3, .i .i64 (i : Int))] ∧ ∀ (k : Nat) (hk : k < b.journal.length), k < i → EntOK b b.journal[k]) b.journal.length (fun r => r = (.r, [(2, .b false)]) ∨ (r = (.e 0, []) ∧ ∀ e ∈ b.journal, EntOK b e)) (fun i env hI => by obtain ⟨rfl, _⟩ := hI; simp) (fun i env hi hI => by
    obtain ⟨rfl, hz⟩ := hI
    rcases r15 (X := X) b h hl12 i hi with ⟨h1, h2⟩ | h1
    · left
      refine ⟨_, h1, rfl, fun k hk hki => ?_⟩
      by_cases e : k = i
      · subst e; exact h2
      · exact hz k hk (by omega)
    · exact .inr ⟨_, h1, by simp, .inl rfl⟩) (fun env hI => by
    obtain ⟨rfl, hz⟩ := hI
    refine ⟨(.e 0, []), by simp [body15_2], by simp, .inr ⟨rfl, fun m hm => ?_⟩⟩
    obtain ⟨k, hk, rfl⟩ := List.getElem_of_mem hm
    exact hz k hk hk) b.journal.length 0 [(1, .bx b.cells), (3, .i .i64 ((0 : Nat) : Int))] (by omega) ⟨rfl, fun k _ h => absurd h (by omega)⟩
  obtain ⟨r, hl, hr⟩ := hl
  simp only [Int.natCast_zero] at hl
  rcases hr with rfl | ⟨rfl, hk⟩
  · exact ⟨false, orun (fc := code15) rfl rfl rfl (by simp [code15, exec_loopK, hl]), by simp⟩
  · exact ⟨true, orun (fc := code15) rfl rfl rfl (by simp [code15, exec_loopK, hl]), fun _ => hk⟩
end Go.Proofs.YtmhbkofbbkogeaaGreat
